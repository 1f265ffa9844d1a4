/- The law FnShots: the ends of a plan lie in the windows, blocked minutes fit the works, the best plan has no less gain, the fewest crews are the fewest: for all inputs, of any length. -/
import Derived.Test.YtpmbaemfpkcjnaaDrawShp
import Derived.Test.YtpmbaemfpkcjnaaShotW
import Derived.Test.YtpmbaemfpkcjnaaShotQ
import Derived.Test.YtpmbaemfpkcjnaaBlkI
import Derived.Deep.CutRange
namespace Go.Proofs.Ytpmbaemfpkcjnaa
open Go.RowKit
theorem partTo_bd {P : List (Int × Int)} (h : ∀ k, k < P.length → 0 ≤ (nth P k).1 ∧ (nth P k).1 < (nth P k).2 ∧ (nth P k).2 ≤ 1441) : ∀ {k : Nat}, k ≤ P.length → 0 ≤ partTo P k ∧ partTo P k ≤ 1441 * k
  | 0, _ => by simp [partTo]
  | k + 1, hk => by
    have := partTo_bd h (k := k) (by omega)
    have := h k (by omega)
    simp only [partTo]; omega
theorem nth_fins {l : List Shot} {ord : List Int} {c : Int} {k : Nat} (h : k < (planV l ord c).length) : nth (finsP l ord c) k = (nth (planV l ord c) k).fin := by
  unfold finsP
  rw [nth_eq _ k (by rw [List.length_map]; exact h), List.getElem_map, nth_eq _ k h]
/-- What the law asks of the slack. -/
theorem slack_law {l : List Shot} {ord : List Int} {c : Int} (h : planC l ord c = 0) : 0 ≤ slackV l ord c ∧ (slackC l ord c == 0) = decide (0 < ord.length) := by
  by_cases h0 : ord.length = 0
  · obtain ⟨e1, e2⟩ := slack_3 h h0
    rw [e1, e2, h0]; exact ⟨Int.le_refl _, rfl⟩
  · obtain ⟨e1, e2⟩ := slack_0 h h0
    rw [e1, e2]
    refine ⟨(slackTo_bd h (Nat.le_refl _)).1, ?_⟩
    rw [decide_eq_true (show 0 < ord.length by omega)]; rfl
theorem best_len (l : List Shot) (c b : Int) : (bestV l c b).length ≤ l.length := by
  unfold bestV
  split
  · exact vis_len _ _ _ _
  · exact Nat.zero_le _
set_option maxRecDepth 100000 in
set_option maxHeartbeats 16000000 in
theorem shots_law (w : World) (a0 : Option Addr) (cap0 : Nat) (l0 : List UInt8) (H0 : RowsAt 1 (fun (x : UInt8) (_ : Nat) => Value.int .u8 x.toNat) w a0 l0) (_ : ∀ k, k < l0.length → True) (hn0 : l0.length ≤ 9223372036854775807) (_ : l0.length ≤ cap0)
    (a1 : Option Addr) (cap1 : Nat) (l1 : List UInt8) (H1 : RowsAt 1 (fun (x : UInt8) (_ : Nat) => Value.int .u8 x.toNat) w a1 l1) (_ : ∀ k, k < l1.length → True) (hn1 : l1.length ≤ 9223372036854775807) (_ : l1.length ≤ cap1) :
    Gives Try.prog 3 #[.slice a0 l0.length cap0, .slice a1 l1.length cap1] w (.bool true) := by
  unfold Gives
  have B0 := Lib.hid (ByteAt.of8 H0)
  have B1 := Lib.hid (ByteAt.of8 H1)
  have R0 := Lib.hid (byte_range l0)
  have R1 := Lib.hid (byte_range l1)
  rw [show l0.length = (l0.map fun x => (x.toNat : Int)).length by simp] at hn0 ⊢
  rw [show l1.length = (l1.map fun x => (x.toNat : Int)).length by simp] at hn1 ⊢
  clear H0 H1
  generalize (l0.map fun x => (x.toNat : Int)) = code at *
  generalize (l1.map fun x => (x.toNat : Int)) = more at *
  have HL0 := Lib.hid (b10Long_any a0 code.length cap0 w hn0)
  have HL1 := Lib.hid (b10Long_any a1 more.length cap1 w hn1)
  go_enter Try.func3, Try.ntmps3
  go_wp2_with fail
  refine HL0.out.mono ?_
  rintro e w' ⟨b, rfl, g0, rfl⟩
  replace g0 := Lib.hid g0
  cases b
  case true =>
    go_wp2_with fail
    go_ret
    exact ⟨rfl, Ext.refl _⟩
  have f0 : code.length ≤ 1048576 := g0.out rfl
  clear HL0
  go_wp2_with fail
  refine HL1.out.mono ?_
  rintro e w' ⟨b, rfl, g1, rfl⟩
  replace g1 := Lib.hid g1
  cases b
  case true =>
    go_wp2_with fail
    go_ret
    exact ⟨rfl, Ext.refl _⟩
  have f1 : more.length ≤ 1048576 := g1.out rfl
  clear g0 g1
  clear HL1
  go_wp2_with fail
  refine (DrawPlanEnds_any w' a0 cap0 code B0.out R0.out f0).mono ?_
  rintro e w1 ⟨ta, tc, l, oa, oc, ord, c, rfl, htc, hl9, hA, hRl, hoc, ho9, hAo, hRo, hc01, E1⟩
  have hsm := Lib.hid fun k (hk : k < l.length) => (hA.at k hk).small
  have hbd := Lib.hid (show ∀ k, k < ord.length → -9223372036854775808 ≤ nth ord k ∧ nth ord k ≤ 9223372036854775807 from fun k hk => by have := hAo.at k hk; omega)
  have hRl := Lib.hid hRl
  have hRo := Lib.hid hRo
  have E1 := Lib.hid E1
  have B1 := Lib.hid (RowsAt.ext B1.out E1.out)
  clear B0 R0 f0 hA hAo
  have KE := Lib.hid fun (W : World) (he : Ext w1 W) => implPlanEnds_any W ta tc l (RowsAt.ext hRl.out he) hsm.out (by omega) htc oa oc ord (RowsAt.ext hRo.out he) hbd.out (by omega) hoc c
  have KI := Lib.hid fun (W : World) (he : Ext w1 W) => implIsShotPlan_any ta tc l oa oc ord c W (RowsAt.ext hRl.out he) hsm.out (by omega) (RowsAt.ext hRo.out he) (by omega) hoc
  obtain ⟨p, hp⟩ : ∃ p, p = planC l ord c := ⟨_, rfl⟩
  rw [← hp] at KE KI
  replace hp := Lib.hid hp
  have hne : ((p == 0) != (p == 0)) = false := by cases (p == 0) <;> rfl
  go_wp2_with fail
  refine (KE.out _ (Ext.refl _)).mono ?_
  rintro e w2 ⟨ea, ec, rfl, hec, -, hRe, E2⟩
  have hRe := Lib.hid hRe
  have E2 := Lib.hid E2
  obtain ⟨FL, hFL⟩ : ∃ FL, FL = finsP l ord c := ⟨_, rfl⟩
  rw [← hFL] at hRe hec ⊢
  replace hFL := Lib.hid hFL
  go_wp2_with fail
  refine (KI.out _ E2.out).mono ?_
  rintro e w3 ⟨rfl, E3⟩
  have E3 := Lib.hid E3
  clear KE KI
  go_upto_if 61 with fail
  obtain ⟨bb, hbb⟩ : ∃ bb, bb = (p == 0) := ⟨_, rfl⟩
  rw [← hbb]
  replace hbb := Lib.hid hbb
  clear hne
  go_cut [10, 11, 12, 13, 14, 15, 16, 17, 18, 19, 20, 21, 22, 23] from 62 to 252 (fun _ _ _ _ _ _ _ _ _ _ _ _ _ _ wx => Ext w1 wx)
  case first =>
    by_cases h0 : p = 0
    · have hb1 : bb = true := by rw [hbb.out, h0]; rfl
      have hpz : planC l ord c = 0 := by rw [← hp.out]; exact h0
      clear hbb h0
      subst hb1
      obtain ⟨hask, kc, hkc, hkc0, hkc3, -⟩ := planC_plan hpz
      obtain ⟨ha1, ha2, ha3⟩ := askS_0 hask
      obtain ⟨hL1, hL2, hL3, hL4⟩ := plan_law hpz
      obtain ⟨hsok, hvl, -⟩ := planC_ok hpz
      have KG := Lib.hid fun (W : World) (he : Ext w1 W) => implShotGain_plan ta tc l oa oc ord W (RowsAt.ext hRl.out he) hsm.out (by omega) (RowsAt.ext hRo.out he) (by omega) hoc ha1 ha2
      have KL := Lib.hid fun (W : World) (he : Ext w1 W) => implLastEnd_plan ta tc l oa oc ord c W (RowsAt.ext hRl.out he) hsm.out (by omega) (RowsAt.ext hRo.out he) (by omega) hoc hpz
      have KB := Lib.hid fun (W : World) (he : Ext w1 W) => implBlockedMinutes_any W ta tc l (RowsAt.ext hRl.out he) hsm.out (by omega) htc oa oc ord (RowsAt.ext hRo.out he) hbd.out (by omega) hoc c
      have KS := Lib.hid fun (W : World) (he : Ext w1 W) => implBestShots_any W ta tc l (RowsAt.ext hRl.out he) hsm.out (by omega) htc c 20000
      have hbC : blkC l ord c = 0 := hpz
      rw [hbC, hL2.1] at KB
      have hFl : FL.length = ord.length := by rw [hFL.out]; unfold finsP; rw [List.length_map]; exact hvl
      have hFn := Lib.hid fun k (hk : k < ord.length) => (show nth FL k = (nth (planV l ord c) k).fin by rw [hFL.out]; exact nth_fins (by rw [hvl]; exact hk))
      have hpl1 := Lib.hid fun k (hk : k < ord.length) => (show (nth (planV l ord c) k).fin ≤ (pickS l ord k).til ∧ (pickS l ord k).frm + (pickS l ord k).mins ≤ (nth (planV l ord c) k).fin ∧ (nth (planV l ord c) k).fin ≤ lastTo (planV l ord c) ord.length ∧ True from ⟨(hL1 k hk).1, (hL1 k hk).2, lastTo_ge _ hk, trivial⟩)
      obtain ⟨P, hP⟩ : ∃ P, P = partsS l ord c := ⟨_, rfl⟩
      rw [← hP] at KB hL2 hL3 hL4
      have hPl := hL2.2.1
      have hPb := Lib.hid hL2.2.2.1
      have hPa := Lib.hid hL2.2.2.2
      have hPm := Lib.hid (And.intro hL3 hL4)
      have hc13 : 1 ≤ c ∧ c ≤ 3 := by omega
      replace hsok := Lib.hid hsok
      have hbest := Lib.hid fun (hb : bestC l c 20000 = 0) => best_law hpz hb
      have hbl := best_len l c 20000
      clear hL1 hL2 hL3 hL4 hask ha1 ha2 ha3 hvl hP hbC hpz hkc
      have hFb : ((FL.length : Int) != (ord.length : Int)) = false := by rw [hFl]; simp
      replace hFl := Lib.hid hFl
      go_wp2_with fail
      refine (KG.out _ (E2.out.trans E3.out)).mono ?_
      rintro e w4 ⟨rfl, E4⟩
      have E4 := Lib.hid (E3.out.trans E4)
      go_wp2_with fail
      refine (KL.out _ (E2.out.trans E4.out)).mono ?_
      rintro e w5 ⟨rfl, E5⟩
      have E5 := Lib.hid (E4.out.trans E5)
      go_wp2_with fail
      refine (KB.out _ (E2.out.trans E5.out)).mono ?_
      rintro e w6 ⟨gv, vs, gs, he6, HB, E6⟩
      have he6' : e = .returned (.tuple #[gv, .int .i64 0]) := he6
      subst he6'
      have E6 := Lib.hid (E5.out.trans E6)
      clear he6
      obtain ⟨pa, pc, rfl, hpc, hII, -, -⟩ := HB.out
      replace hII := Lib.hid hII
      rw [show (P.map pr).length = P.length by simp] at hpc ⊢
      clear HB KG KL KB
      go_wp2_with fail
      refine (KS.out _ (E2.out.trans E6.out)).mono ?_
      rintro e w7 ⟨ba, bc, rfl, hbc, -, hRb, E7⟩
      have hII7 := Lib.hid (hII.out.ext E7)
      have hRe7 := Lib.hid (RowsAt.ext hRe.out (E6.out.trans E7))
      replace E7 := Lib.hid (E2.out.trans (E6.out.trans E7))
      have hRl7 := Lib.hid (RowsAt.ext hRl.out E7.out)
      have hRo7 := Lib.hid (RowsAt.ext hRo.out E7.out)
      have KP := Lib.hid (specIsShotPlan_any ta tc l ba bc (bestV l c 20000) c w7 hRl7.out hsm.out (by omega) hRb (by omega) hbc)
      clear KS hII hRe hRl hRo hRb E2 E3 E4 E5 E6 hbl
      obtain ⟨bC, hbC⟩ : ∃ bC, bC = bestC l c 20000 := ⟨_, rfl⟩
      obtain ⟨bG, hbG⟩ : ∃ bG, bG = bestG l c 20000 := ⟨_, rfl⟩
      rw [← hbC, ← hbG] at hbest ⊢
      generalize bestV l c 20000 = bV at *
      clear hbC hbG
      cases hb : (bC == 0)
      · obtain ⟨w9, hw9⟩ : ∃ w9, w9 = w7 := ⟨_, rfl⟩
        subst hw9
        have hII9 := hII7
        have hRe9 := hRe7
        have E9 := E7
        have hRl9 := hRl7
        have hRo9 := hRo7
        clear hII7 hRe7 E7 hRl7 hRo7 KP hbest
        as_aux_lemma =>
          go_wp2_with fail
          go_loopw [19, 20] (fun s i wt => ∃ k : Nat, k ≤ ord.length ∧ i = .int .i64 k ∧ s = .int .i64 (minsTo l ord k) ∧ Hid (Ext w9 wt)) (fun _ i _ => ord.length - (intOf i).toNat)
          case atStart => exact ⟨0, Nat.zero_le _, rfl, rfl, Ext.refl _⟩
          case round =>
            obtain ⟨k, hk, rfl, rfl, he⟩ := hrel
            obtain ⟨mb0, mb1⟩ := minsTo_bd hsok.out hk
            by_cases hlt : k < ord.length
            · have hlt1 : decide (k < ord.length) = true := decide_eq_true hlt
              obtain ⟨q1, q2, q3, q4⟩ := hpl1.out k hlt
              obtain ⟨i0, i1⟩ := hsok.out.ord k hlt
              have hsb := shotB_bd (hsok.out.pick hlt)
              obtain ⟨ob, oo, rfl⟩ := RowsAt.base hRo9.out hlt
              obtain ⟨hob, d0⟩ := IntAt.at (RowsAt.ext hRo9.out he.out) k hlt
              have hef : k < FL.length := by rw [hFl.out]; exact hlt
              obtain ⟨eb, eo, rfl⟩ := RowsAt.base hRe9.out hef
              obtain ⟨heb, f0⟩ := IntAt.at (RowsAt.ext hRe9.out he.out) k hef
              rw [hFn.out k hlt] at f0
              obtain ⟨m, hm⟩ := Int.eq_ofNat_of_zero_le i0
              have hml : m < l.length := by omega
              obtain ⟨b, off, rfl⟩ := RowsAt.base hRl9.out hml
              obtain ⟨hb, c0, c1, c2, c3, c4⟩ := Shot.at (RowsAt.ext hRl9.out he.out) m hml
              have hpk : pickS l ord k = nth l m := by unfold pickS; rw [hm]; rfl
              have hst : Hid (minsTo l ord (k + 1) = minsTo l ord k + (nth l m).mins) := by show _ = _; simp only [minsTo]; rw [hpk]
              rw [hpk] at hsb q1 q2
              rw [hm] at d0 i1
              obtain ⟨-, hs1, hs2, hs3, -, -⟩ := hsb
              generalize nth l m = x at *
              generalize (nth (planV l ord c) k).fin = fn at *
              generalize lastTo (planV l ord c) ord.length = lst at *
              have g1 : decide ((m : Int) < 0) = false := decide_eq_false (by omega)
              have g2 : decide ((l.length : Int) ≤ (m : Int)) = false := decide_eq_false (by omega)
              have g3 : decide (x.til < fn) = false := decide_eq_false (by omega)
              have g4 : decide (fn < x.frm + x.mins) = false := decide_eq_false (by omega)
              have g5 : decide (lst < fn) = false := decide_eq_false (by omega)
              clear hpk hm i0
              go_wp2_with fail
              refine region_quiet (by kernel_rfl) (by kernel_rfl) ?_
              repeat (any_goals (first | go_big_quiet_step (fail) | quiet_step (fail)))
              refine wpQuiet_nil ?_
              intro _ hw'
              obtain ⟨y, hw''⟩ := hw'
              subst hw''
              go_wp2_with fail
              go_roundw
              case rel => exact ⟨k + 1, by omega, by go_num, by rw [hst.out], (by repeat (first | exact he.out | refine Ext.lift ?_ _ | refine Ext.alloc ?_ _))⟩
              case measure => simp [intOf]; omega
            · have hlt1 : decide (k < ord.length) = false := decide_eq_false hlt
              obtain rfl : k = ord.length := by omega
              go_wp2_with fail
              go_loopw [22, 23] (fun s i wt => ∃ k : Nat, k ≤ P.length ∧ i = .int .i64 k ∧ s = .int .i64 (partTo P k) ∧ Hid (Ext w9 wt)) (fun _ i _ => P.length - (intOf i).toNat)
              case atStart => exact ⟨0, Nat.zero_le _, rfl, rfl, he.out⟩
              case round =>
                clear he
                obtain ⟨k, hk, rfl, rfl, he⟩ := hrel
                obtain ⟨pb0, pb1⟩ := partTo_bd hPb.out hk
                by_cases hlt : k < P.length
                · have hlt2 : decide (k < P.length) = true := decide_eq_true hlt
                  have hlm : k < (P.map pr).length := by rw [List.length_map]; exact hlt
                  have hIW := hII9.out.ext he.out
                  obtain ⟨vb, vo, rfl⟩ := RowsAt.base hIW.row (by rw [hIW.len]; exact hlm)
                  obtain ⟨hvb, ad, cp, hcell, -, hIA⟩ := hIW.at hlm
                  have en : nth (P.map pr) k = [(nth P k).1, (nth P k).2] := by rw [nth_map_pr hlt, nth_eq P k hlt]; rfl
                  rw [en] at hcell hIA
                  replace hcell : wr.cell? ⟨vb, vo + k, none⟩ = some (.slice ad 2 cp) := hcell
                  obtain ⟨ab, ao, rfl⟩ := RowsAt.base hIA (show 0 < 2 by decide)
                  obtain ⟨hab, p0⟩ := IntAt.at hIA 0 (by simp)
                  obtain ⟨-, p1⟩ := IntAt.at hIA 1 (by simp)
                  replace p0 : wr.cell? ⟨ab, ao, none⟩ = some (.int .i64 (nth P k).1) := p0
                  replace p1 : wr.cell? ⟨ab, ao + 1, none⟩ = some (.int .i64 (nth P k).2) := p1
                  obtain ⟨r0, r1, r2⟩ := hPb.out k hlt
                  have g1 : decide ((nth P k).2 ≤ (nth P k).1) = false := decide_eq_false (by omega)
                  have hst : Hid (partTo P (k + 1) = partTo P k + ((nth P k).2 - (nth P k).1)) := rfl
                  clear hIA en hlm
                  rcases Nat.eq_zero_or_pos k with hz | hz
                  · subst hz
                    clear hIW
                    replace hcell : wr.cell? ⟨vb, vo, none⟩ = some (.slice (some ⟨ab, ao, none⟩) 2 cp) := hcell
                    generalize nth P 0 = p at *
                    go_wp2_with fail
                    refine region_quiet (by kernel_rfl) (by kernel_rfl) ?_
                    repeat (any_goals (first | go_big_quiet_step (fail) | quiet_step (fail)))
                    refine wpQuiet_nil ?_
                    intro _ hw'
                    obtain ⟨y, hw''⟩ := hw'
                    subst hw''
                    go_wp2_with fail
                    refine region_quiet (by kernel_rfl) (by kernel_rfl) ?_
                    repeat (any_goals (first | go_big_quiet_step (fail) | quiet_step (fail)))
                    refine wpQuiet_nil ?_
                    intro _ hw'
                    obtain ⟨y, hw''⟩ := hw'
                    subst hw''
                    go_wp2_with fail
                    go_roundw
                    case rel => exact ⟨0 + 1, by omega, by go_num, by rw [hst.out], (by repeat (first | exact he.out | refine Ext.lift ?_ _ | refine Ext.alloc ?_ _))⟩
                    case measure => simp [intOf]; omega
                  · have g2 : decide (0 < (k : Int)) = true := decide_eq_true (by omega)
                    have hlm1 : k - 1 < (P.map pr).length := by rw [List.length_map]; omega
                    obtain ⟨-, ad1, cp1, hcell1, -, hIA1⟩ := hIW.at hlm1
                    have en : nth (P.map pr) (k - 1) = [(nth P (k - 1)).1, (nth P (k - 1)).2] := by rw [nth_map_pr (by omega), nth_eq P (k - 1) (by omega)]; rfl
                    rw [en] at hcell1 hIA1
                    replace hcell1 : wr.cell? ⟨vb, vo + (k - 1), none⟩ = some (.slice ad1 2 cp1) := hcell1
                    obtain ⟨ab1, ao1, rfl⟩ := RowsAt.base hIA1 (show 0 < 2 by decide)
                    obtain ⟨hab1, o1⟩ := IntAt.at hIA1 1 (by simp)
                    replace o1 : wr.cell? ⟨ab1, ao1 + 1, none⟩ = some (.int .i64 (nth P (k - 1)).2) := o1
                    have hap := hPa.out (k - 1) (by omega)
                    rw [show k - 1 + 1 = k by omega] at hap
                    have g3 : decide ((nth P k).1 ≤ (nth P (k - 1)).2) = false := decide_eq_false (by omega)
                    clear hIW hIA1 en hlm1
                    generalize nth P (k - 1) = p' at *
                    generalize nth P k = p at *
                    go_wp2_with fail
                    refine region_quiet (by kernel_rfl) (by kernel_rfl) ?_
                    repeat (any_goals (first | go_big_quiet_step (fail) | quiet_step (fail)))
                    refine wpQuiet_nil ?_
                    intro _ hw'
                    obtain ⟨y, hw''⟩ := hw'
                    subst hw''
                    go_wp2_with fail
                    refine region_quiet (by kernel_rfl) (by kernel_rfl) ?_
                    repeat (any_goals (first | go_big_quiet_step (fail) | quiet_step (fail)))
                    refine wpQuiet_nil ?_
                    intro _ hw'
                    obtain ⟨y, hw''⟩ := hw'
                    subst hw''
                    go_wp2_with fail
                    go_roundw
                    case rel => exact ⟨k + 1, by omega, by go_num, by rw [hst.out], (by repeat (first | exact he.out | refine Ext.lift ?_ _ | refine Ext.alloc ?_ _))⟩
                    case measure => simp [intOf]; omega
                · have hlt2 : decide (k < P.length) = false := decide_eq_false hlt
                  obtain rfl : k = P.length := by omega
                  obtain ⟨l1, l2⟩ := hPm.out
                  generalize partTo P P.length = tt at *
                  generalize minsTo l ord ord.length = mm at *
                  obtain ⟨Q, hQ⟩ : ∃ Q, Q = tt * c := ⟨_, rfl⟩
                  have hmul : IntKind.i64.wrap (tt * c) = Q := by
                    rw [← hQ, IntKind.wrap_i64]
                    have hq : 0 ≤ Q ∧ Q ≤ 3 * tt := by
                      rw [hQ]
                      rcases (show c = 1 ∨ c = 2 ∨ c = 3 by omega) with rfl | rfl | rfl <;> omega
                    omega
                  rw [← hQ] at l2
                  clear hQ
                  have g1 : decide (mm < tt) = false := decide_eq_false (by omega)
                  have g2 : decide (Q < mm) = false := decide_eq_false (by omega)
                  go_wp2_with fail
                  go_meet
                  case rel => exact E9.out.trans he.out
      · obtain ⟨hg, hpv⟩ := hbest.out (beq_iff_eq.1 hb)
        rw [hpv] at KP
        have g0 : decide (bG < gainS l ord) = false := decide_eq_false (by omega)
        clear hbest hpv hg
        go_wp2_with fail
        refine KP.out.mono ?_
        rintro e w9 ⟨rfl, E8⟩
        have hII9 := Lib.hid (hII7.out.ext E8)
        have hRe9 := Lib.hid (RowsAt.ext hRe7.out E8)
        have E9 := Lib.hid (E7.out.trans E8)
        have hRl9 := Lib.hid (RowsAt.ext hRl7.out E8)
        have hRo9 := Lib.hid (RowsAt.ext hRo7.out E8)
        clear hII7 hRe7 E7 hRl7 hRo7 KP E8
        as_aux_lemma =>
          go_wp2_with fail
          go_loopw [19, 20] (fun s i wt => ∃ k : Nat, k ≤ ord.length ∧ i = .int .i64 k ∧ s = .int .i64 (minsTo l ord k) ∧ Hid (Ext w9 wt)) (fun _ i _ => ord.length - (intOf i).toNat)
          case atStart => exact ⟨0, Nat.zero_le _, rfl, rfl, Ext.refl _⟩
          case round =>
            obtain ⟨k, hk, rfl, rfl, he⟩ := hrel
            obtain ⟨mb0, mb1⟩ := minsTo_bd hsok.out hk
            by_cases hlt : k < ord.length
            · have hlt1 : decide (k < ord.length) = true := decide_eq_true hlt
              obtain ⟨q1, q2, q3, q4⟩ := hpl1.out k hlt
              obtain ⟨i0, i1⟩ := hsok.out.ord k hlt
              have hsb := shotB_bd (hsok.out.pick hlt)
              obtain ⟨ob, oo, rfl⟩ := RowsAt.base hRo9.out hlt
              obtain ⟨hob, d0⟩ := IntAt.at (RowsAt.ext hRo9.out he.out) k hlt
              have hef : k < FL.length := by rw [hFl.out]; exact hlt
              obtain ⟨eb, eo, rfl⟩ := RowsAt.base hRe9.out hef
              obtain ⟨heb, f0⟩ := IntAt.at (RowsAt.ext hRe9.out he.out) k hef
              rw [hFn.out k hlt] at f0
              obtain ⟨m, hm⟩ := Int.eq_ofNat_of_zero_le i0
              have hml : m < l.length := by omega
              obtain ⟨b, off, rfl⟩ := RowsAt.base hRl9.out hml
              obtain ⟨hb, c0, c1, c2, c3, c4⟩ := Shot.at (RowsAt.ext hRl9.out he.out) m hml
              have hpk : pickS l ord k = nth l m := by unfold pickS; rw [hm]; rfl
              have hst : Hid (minsTo l ord (k + 1) = minsTo l ord k + (nth l m).mins) := by show _ = _; simp only [minsTo]; rw [hpk]
              rw [hpk] at hsb q1 q2
              rw [hm] at d0 i1
              obtain ⟨-, hs1, hs2, hs3, -, -⟩ := hsb
              generalize nth l m = x at *
              generalize (nth (planV l ord c) k).fin = fn at *
              generalize lastTo (planV l ord c) ord.length = lst at *
              have g1 : decide ((m : Int) < 0) = false := decide_eq_false (by omega)
              have g2 : decide ((l.length : Int) ≤ (m : Int)) = false := decide_eq_false (by omega)
              have g3 : decide (x.til < fn) = false := decide_eq_false (by omega)
              have g4 : decide (fn < x.frm + x.mins) = false := decide_eq_false (by omega)
              have g5 : decide (lst < fn) = false := decide_eq_false (by omega)
              clear hpk hm i0
              go_wp2_with fail
              refine region_quiet (by kernel_rfl) (by kernel_rfl) ?_
              repeat (any_goals (first | go_big_quiet_step (fail) | quiet_step (fail)))
              refine wpQuiet_nil ?_
              intro _ hw'
              obtain ⟨y, hw''⟩ := hw'
              subst hw''
              go_wp2_with fail
              go_roundw
              case rel => exact ⟨k + 1, by omega, by go_num, by rw [hst.out], (by repeat (first | exact he.out | refine Ext.lift ?_ _ | refine Ext.alloc ?_ _))⟩
              case measure => simp [intOf]; omega
            · have hlt1 : decide (k < ord.length) = false := decide_eq_false hlt
              obtain rfl : k = ord.length := by omega
              go_wp2_with fail
              go_loopw [22, 23] (fun s i wt => ∃ k : Nat, k ≤ P.length ∧ i = .int .i64 k ∧ s = .int .i64 (partTo P k) ∧ Hid (Ext w9 wt)) (fun _ i _ => P.length - (intOf i).toNat)
              case atStart => exact ⟨0, Nat.zero_le _, rfl, rfl, he.out⟩
              case round =>
                clear he
                obtain ⟨k, hk, rfl, rfl, he⟩ := hrel
                obtain ⟨pb0, pb1⟩ := partTo_bd hPb.out hk
                by_cases hlt : k < P.length
                · have hlt2 : decide (k < P.length) = true := decide_eq_true hlt
                  have hlm : k < (P.map pr).length := by rw [List.length_map]; exact hlt
                  have hIW := hII9.out.ext he.out
                  obtain ⟨vb, vo, rfl⟩ := RowsAt.base hIW.row (by rw [hIW.len]; exact hlm)
                  obtain ⟨hvb, ad, cp, hcell, -, hIA⟩ := hIW.at hlm
                  have en : nth (P.map pr) k = [(nth P k).1, (nth P k).2] := by rw [nth_map_pr hlt, nth_eq P k hlt]; rfl
                  rw [en] at hcell hIA
                  replace hcell : wr.cell? ⟨vb, vo + k, none⟩ = some (.slice ad 2 cp) := hcell
                  obtain ⟨ab, ao, rfl⟩ := RowsAt.base hIA (show 0 < 2 by decide)
                  obtain ⟨hab, p0⟩ := IntAt.at hIA 0 (by simp)
                  obtain ⟨-, p1⟩ := IntAt.at hIA 1 (by simp)
                  replace p0 : wr.cell? ⟨ab, ao, none⟩ = some (.int .i64 (nth P k).1) := p0
                  replace p1 : wr.cell? ⟨ab, ao + 1, none⟩ = some (.int .i64 (nth P k).2) := p1
                  obtain ⟨r0, r1, r2⟩ := hPb.out k hlt
                  have g1 : decide ((nth P k).2 ≤ (nth P k).1) = false := decide_eq_false (by omega)
                  have hst : Hid (partTo P (k + 1) = partTo P k + ((nth P k).2 - (nth P k).1)) := rfl
                  clear hIA en hlm
                  rcases Nat.eq_zero_or_pos k with hz | hz
                  · subst hz
                    clear hIW
                    replace hcell : wr.cell? ⟨vb, vo, none⟩ = some (.slice (some ⟨ab, ao, none⟩) 2 cp) := hcell
                    generalize nth P 0 = p at *
                    go_wp2_with fail
                    refine region_quiet (by kernel_rfl) (by kernel_rfl) ?_
                    repeat (any_goals (first | go_big_quiet_step (fail) | quiet_step (fail)))
                    refine wpQuiet_nil ?_
                    intro _ hw'
                    obtain ⟨y, hw''⟩ := hw'
                    subst hw''
                    go_wp2_with fail
                    refine region_quiet (by kernel_rfl) (by kernel_rfl) ?_
                    repeat (any_goals (first | go_big_quiet_step (fail) | quiet_step (fail)))
                    refine wpQuiet_nil ?_
                    intro _ hw'
                    obtain ⟨y, hw''⟩ := hw'
                    subst hw''
                    go_wp2_with fail
                    go_roundw
                    case rel => exact ⟨0 + 1, by omega, by go_num, by rw [hst.out], (by repeat (first | exact he.out | refine Ext.lift ?_ _ | refine Ext.alloc ?_ _))⟩
                    case measure => simp [intOf]; omega
                  · have g2 : decide (0 < (k : Int)) = true := decide_eq_true (by omega)
                    have hlm1 : k - 1 < (P.map pr).length := by rw [List.length_map]; omega
                    obtain ⟨-, ad1, cp1, hcell1, -, hIA1⟩ := hIW.at hlm1
                    have en : nth (P.map pr) (k - 1) = [(nth P (k - 1)).1, (nth P (k - 1)).2] := by rw [nth_map_pr (by omega), nth_eq P (k - 1) (by omega)]; rfl
                    rw [en] at hcell1 hIA1
                    replace hcell1 : wr.cell? ⟨vb, vo + (k - 1), none⟩ = some (.slice ad1 2 cp1) := hcell1
                    obtain ⟨ab1, ao1, rfl⟩ := RowsAt.base hIA1 (show 0 < 2 by decide)
                    obtain ⟨hab1, o1⟩ := IntAt.at hIA1 1 (by simp)
                    replace o1 : wr.cell? ⟨ab1, ao1 + 1, none⟩ = some (.int .i64 (nth P (k - 1)).2) := o1
                    have hap := hPa.out (k - 1) (by omega)
                    rw [show k - 1 + 1 = k by omega] at hap
                    have g3 : decide ((nth P k).1 ≤ (nth P (k - 1)).2) = false := decide_eq_false (by omega)
                    clear hIW hIA1 en hlm1
                    generalize nth P (k - 1) = p' at *
                    generalize nth P k = p at *
                    go_wp2_with fail
                    refine region_quiet (by kernel_rfl) (by kernel_rfl) ?_
                    repeat (any_goals (first | go_big_quiet_step (fail) | quiet_step (fail)))
                    refine wpQuiet_nil ?_
                    intro _ hw'
                    obtain ⟨y, hw''⟩ := hw'
                    subst hw''
                    go_wp2_with fail
                    refine region_quiet (by kernel_rfl) (by kernel_rfl) ?_
                    repeat (any_goals (first | go_big_quiet_step (fail) | quiet_step (fail)))
                    refine wpQuiet_nil ?_
                    intro _ hw'
                    obtain ⟨y, hw''⟩ := hw'
                    subst hw''
                    go_wp2_with fail
                    go_roundw
                    case rel => exact ⟨k + 1, by omega, by go_num, by rw [hst.out], (by repeat (first | exact he.out | refine Ext.lift ?_ _ | refine Ext.alloc ?_ _))⟩
                    case measure => simp [intOf]; omega
                · have hlt2 : decide (k < P.length) = false := decide_eq_false hlt
                  obtain rfl : k = P.length := by omega
                  obtain ⟨l1, l2⟩ := hPm.out
                  generalize partTo P P.length = tt at *
                  generalize minsTo l ord ord.length = mm at *
                  obtain ⟨Q, hQ⟩ : ∃ Q, Q = tt * c := ⟨_, rfl⟩
                  have hmul : IntKind.i64.wrap (tt * c) = Q := by
                    rw [← hQ, IntKind.wrap_i64]
                    have hq : 0 ≤ Q ∧ Q ≤ 3 * tt := by
                      rw [hQ]
                      rcases (show c = 1 ∨ c = 2 ∨ c = 3 by omega) with rfl | rfl | rfl <;> omega
                    omega
                  rw [← hQ] at l2
                  clear hQ
                  have g1 : decide (mm < tt) = false := decide_eq_false (by omega)
                  have g2 : decide (Q < mm) = false := decide_eq_false (by omega)
                  go_wp2_with fail
                  go_meet
                  case rel => exact E9.out.trans he.out
    · have hb1 : bb = false := by rw [hbb.out]; exact beq_eq_false_iff_ne.2 h0
      clear hbb
      subst hb1
      go_wp2_with fail
      go_meet
      case rel => exact E2.out.trans E3.out
  case rest =>
    have B1 := Lib.hid (RowsAt.ext B1.out hcut)
    have hcut := Lib.hid (E1.out.trans hcut)
    clear E1 E2 E3 hRe hRl hRo hsm hbd hec hp hFL hbb
    go_wp2_with fail
    refine (DrawFewestCrews_any wc a1 cap1 more B1.out R1.out f1).mono ?_
    rintro e v1 ⟨xa, xc, T, bud, rfl, hxc, hT9, hTA, hRT, hbud, F1⟩
    have hsm := Lib.hid fun k (hk : k < T.length) => (hTA.at k hk).small
    have hRT := Lib.hid hRT
    have F1 := Lib.hid (hcut.out.trans F1)
    clear hcut B1 R1 f1 hTA
    have KF := Lib.hid (implFewestCrews_any v1 xa xc T hRT.out hsm.out (by omega) hxc bud)
    have hlaw := Lib.hid (few_law (l := T) (b := bud))
    have hno := Lib.hid (few_no (l := T) (b := bud))
    obtain ⟨F, hF⟩ : ∃ F, F = (few T bud).1 := ⟨_, rfl⟩
    obtain ⟨C, hC⟩ : ∃ C, C = (few T bud).2 := ⟨_, rfl⟩
    rw [← hF, ← hC] at KF hno
    rw [← hC] at hlaw
    replace hF := Lib.hid hF
    replace hC := Lib.hid hC
    go_wp2_with fail
    refine KF.out.mono ?_
    rintro e v2 ⟨rfl, F2⟩
    have F2 := Lib.hid F2
    clear KF
    by_cases hC0 : C = 0
    · obtain ⟨q, e1, q1, q3, k1, k2, k3, k4⟩ := hlaw.out hC0
      rw [← hF.out] at e1
      subst e1
      have hCb : (C != 0) = false := by rw [hC0]; rfl
      have KA := Lib.hid fun (W : World) (he : Ext v1 W) (m : Int) => implAllShots_any W xa xc T (RowsAt.ext hRT.out he) hsm.out (by omega) hxc m bud
      obtain ⟨V, hV⟩ : ∃ V, V = allSV T q bud := ⟨_, rfl⟩
      have KA1 := Lib.hid (KA.out v2 F2.out q)
      rw [k1, ← hV] at KA1
      rw [← hV] at k2 k3
      have hok := (planC_ok k3).1
      obtain ⟨s1, s2⟩ := slack_law k3
      have KS := Lib.hid fun (W : World) (he : Ext v1 W) (a2 : Option Addr) (c2 : Nat) (hr : IntAt W a2 V) (hc : V.length ≤ c2) => implSlackOf_any W xa xc T (RowsAt.ext hRT.out he) hsm.out (by omega) hxc a2 c2 V hr (fun k hk => by have := hok.ord k hk; omega) (by omega) hc q
      have KP := Lib.hid fun (W : World) (he : Ext v1 W) (a2 : Option Addr) (c2 : Nat) (hr : IntAt W a2 V) (hc : V.length ≤ c2) => specIsShotPlan_any xa xc T a2 c2 V q W (RowsAt.ext hRT.out he) hsm.out (by omega) hr (by omega) hc
      rw [k3] at KP
      obtain ⟨sv, hsv⟩ : ∃ sv, sv = slackV T V q := ⟨_, rfl⟩
      obtain ⟨sc, hsc⟩ : ∃ sc, sc = slackC T V q := ⟨_, rfl⟩
      rw [← hsv, ← hsc] at KS
      rw [← hsv] at s1
      rw [← hsc] at s2
      clear hsv hsc hlaw hno hC hF hok k3 k1 hRT hsm hV
      rw [k2] at KS KP s2
      have k2h := Lib.hid k2
      go_wp2_with fail
      refine KA1.out.mono ?_
      rintro e v3 ⟨va, vc, he3, hvc, -, hRV, F3⟩
      rw [k2h.out] at he3 hvc
      subst he3
      have F3 := Lib.hid (F2.out.trans F3)
      have hRV := Lib.hid hRV
      clear KA1 k2
      go_wp2_with fail
      refine (KS.out _ F3.out va vc hRV.out hvc).mono ?_
      rintro e v4 ⟨rfl, F4⟩
      have hRV := Lib.hid (RowsAt.ext hRV.out F4)
      have F4 := Lib.hid (F3.out.trans F4)
      clear KS
      have KP1 := Lib.hid (KP.out _ F4.out va vc hRV.out hvc)
      have g1 : decide (sv < 0) = false := decide_eq_false (by omega)
      have KA2 := Lib.hid fun (W : World) (he : Ext v1 W) => KA.out W he ((q : Int) - 1)
      clear KP KA
      go_wp2_with fail
      refine KP1.out.mono ?_
      rintro e v5 ⟨rfl, F5⟩
      have F5 := Lib.hid (F4.out.trans F5)
      clear KP1
      go_wp2_with fail
      clear s2
      obtain ⟨d, hd⟩ : ∃ d, d = allSC T ((q : Int) - 1) bud := ⟨_, rfl⟩
      rw [← hd] at KA2 k4
      clear hd
      replace k4 := Lib.hid k4
      refine (KA2.out _ F5.out).mono ?_
      rintro e v6 ⟨ua, uc, rfl, -, -, -, F6⟩
      have F6 := Lib.hid (F5.out.trans F6)
      clear KA2
      rcases (show q = 1 ∨ q ≠ 1 by omega) with hq | hq
      · subst hq
        have hq1 : (((1 : Nat) : Int) == 1) = true := rfl
        cases hd3 : (d == 3)
        · go_wp2_with fail
          go_ret
          exact ⟨rfl, F1.out.trans F6.out⟩
        · go_wp2_with fail
          go_ret
          exact ⟨rfl, F1.out.trans F6.out⟩
      · have hd3 : (d == 3) = true := by rw [k4.out hq]; rfl
        go_wp2_with fail
        go_ret
        exact ⟨rfl, F1.out.trans F6.out⟩
    · have hCb : (C != 0) = true := bne_iff_ne.2 hC0
      have hF0 := hno.out hC0
      rw [hF0]
      clear hF0 hno hlaw hF hC
      go_wp2_with fail
      go_ret
      exact ⟨rfl, F1.out.trans F2.out⟩
open Go.ChangeShapes Go.WideShapes Go.ChangeAt
open Go.ChangeMaps (open_string shut_string)
namespace lawFnShots
set_option maxRecDepth 100000 in
theorem lifted (os : Os) (started : os.Started) (H : Type) (enc : TypeId × Value → H) :
    ReturnsInHanded {} Try.checked os 3 .any (Rows.fnShotsSpec.pre6 enc Try.prog Try.f3 Rows.fnShotsRow.domain false) (Rows.fnShotsSpec.post enc Try.prog Try.f3 false true false false) := by
  refine returnsInHanded_of_change (C := Try.checked) own started (by kernel_rfl) Try.func3
    (ChangeSpec.witness6 (enc := enc) (C := Try.checked) false ⟨#[], #[.slice none 0 0, .slice none 0 0], []⟩ 8 (by kernel_rfl) (by kernel_rfl) (by kernel_rfl) (by kernel_rfl)) ?_
  intro W base args ds gs before hval0 hW hcnd _
  have hval : ∀ (j : Nat) t v, Try.f3.params[j]? = some t → args[j]? = some v → Value.okWide Try.prog W .any base t v := hval0
  have hW' := hW
  obtain ⟨p, q, hA0, hV, rfl, hfz, hnd⟩ := hW
  have hA : DataW.TrodAll enc Try.prog W 0 (fun _ => true) true Try.f3.params.toList args.toList ds p := hA0
  rw [Try.params3] at hA hval
  obtain ⟨v0, vs0, d0, ds0, p0, q0, hargs, rfl, rfl, h0, r0⟩ := trodAll_cons hA
  obtain ⟨v1, vs1, d1, ds1, p1, q1, rfl, rfl, rfl, h1, r1⟩ := trodAll_cons r0
  obtain ⟨rfl, rfl, rfl⟩ := trodAll_nil r1
  obtain rfl : args = #[v0, v1] := by cases args; simp_all
  obtain ⟨rfl, rfl⟩ := trodVars_none hV
  have k0 := h0
  have lt0 : ∀ x ∈ p0, x.block < W.heap.size := by obtain ⟨m, hm⟩ := k0; exact DataW.trod_lt m _ _ _ hm
  obtain ⟨a0, len0, cap0, rfl⟩ := okWide_slice Try.underlying22 (hval 0 22 v0 rfl rfl)
  obtain ⟨fuel0, hf0⟩ := h0
  obtain ⟨b0, c0, l0, e0, hl0, hc0, H0, Q0⟩ := open_rows (fun (x : UInt8) (_ : Nat) => Value.int .u8 x.toNat) (fun _ => True) Try.underlying22 (by kernel_rfl : Try.prog.cellsOf 5 = 1) (by decide) (fun _ _ _ => byte_el) hf0
  simp only [Value.cells, List.cons.injEq, Value.slice.injEq, and_true] at e0
  obtain ⟨rfl, rfl, rfl⟩ := e0
  have k1 := h1
  have lt1 : ∀ x ∈ p1, x.block < W.heap.size := by obtain ⟨m, hm⟩ := k1; exact DataW.trod_lt m _ _ _ hm
  obtain ⟨a1, len1, cap1, rfl⟩ := okWide_slice Try.underlying22 (hval 1 22 v1 rfl rfl)
  obtain ⟨fuel1, hf1⟩ := h1
  obtain ⟨b1, c1, l1, e1, hl1, hc1, H1, Q1⟩ := open_rows (fun (x : UInt8) (_ : Nat) => Value.int .u8 x.toNat) (fun _ => True) Try.underlying22 (by kernel_rfl : Try.prog.cellsOf 5 = 1) (by decide) (fun _ _ _ => byte_el) hf1
  simp only [Value.cells, List.cons.injEq, Value.slice.injEq, and_true] at e1
  obtain ⟨rfl, rfl, rfl⟩ := e1
  clear hA0 hval0
  refine (shots_law W a0 cap0 l0 H0 Q0 (by omega) hl0 a1 cap1 l1 H1 Q1 (by omega) hl1).mono fun e W' ⟨he, bx⟩ => ?_
  have bel := bx.below
  subst he
  exact ⟨_, rfl, _, _, _, [], _, [], hW', trodAll_mk1 (shut_bool Try.underlying4 _), (trodAll_cons_mk (Below.trod laidOut (by kernel_rfl) (of_decide_eq_true (by kernel_rfl)) k0 bel lt0) (trodAll_cons_mk (Below.trod laidOut (by kernel_rfl) (of_decide_eq_true (by kernel_rfl)) k1 bel lt1) trodAll_mk0)), rfl, bel.frame _, fun h => by cases h⟩
theorem over : Rows.fnShotsRow.holds Try.pinned (OpenSpec.ofChange Rows.fnShotsSpec) :=
  OpenClaim.holds_of_wide 3 Try.f3 rfl rfl rfl rfl rfl rfl rfl ⟨rfl, rfl, rfl, rfl, rfl⟩ rfl rfl rfl rfl rfl (by kernel_rfl) Try.func3 (by kernel_rfl)
    (of_decide_eq_true (by kernel_rfl)) (by unfold Func.isWrapper; first | (rw [if_pos (by decide +kernel)]; kernel_rfl) | (rw [if_neg (by decide +kernel)]; exact ⟨rfl, rfl⟩))
    (fun os started H enc _ => lifted os started H enc)
/-- The given statement. -/
theorem proved : Rows.FnShotsSaid := over
end lawFnShots
end Go.Proofs.Ytpmbaemfpkcjnaa

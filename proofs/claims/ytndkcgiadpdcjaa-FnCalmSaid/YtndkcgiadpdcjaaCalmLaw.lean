/- The law FnCalm: calm days have no incident, all incidents lie within a long time, and pairs at a place are near in time: for all inputs, of any length. -/
import Derived.Test.YtndkcgiadpdcjaaDrawCalm
import Derived.Test.YtndkcgiadpdcjaaCalmF
import Derived.Test.YtndkcgiadpdcjaaCalmN
import Derived.Test.YtndkcgiadpdcjaaCalmB
import Derived.Test.YtndkcgiadpdcjaaCalmW
import Derived.Test.YtndkcgiadpdcjaaSameI
import Derived.Test.YtndkcgiadpdcjaaLawB
import Derived.Deep.CutRange
namespace Go.Proofs.Ytndkcgiadpdcjaa
open Go.RowKit
theorem cntO_le (l : List Incident) (s d : Int) : ∀ n, ownG l s d n ≤ n
  | 0 => Nat.le_refl _
  | n + 1 => by
    unfold ownG
    have := cntO_le l s d n
    split <;> omega
theorem prI_pre (l : List Incident) (d : Int) (i m : Nat) : ∀ k, ∃ r, prI l d i (m + k) = prI l d i m ++ r
  | 0 => ⟨[], by simp⟩
  | k + 1 => by
    obtain ⟨r, hr⟩ := prI_pre l d i m k
    cases h : pairB l d i (i + 1 + (m + k))
    · exact ⟨r, by rw [← Nat.add_assoc, prI_n h, hr]⟩
    · exact ⟨r ++ [[(i : Int), ((i + 1 + (m + k) : Nat) : Int)]], by rw [← Nat.add_assoc, prI_y h, hr, List.append_assoc]⟩
theorem prO_pre (l : List Incident) (d : Int) (i : Nat) : ∀ k, ∃ r, prO l d (i + k) = prO l d i ++ r
  | 0 => ⟨[], by simp⟩
  | k + 1 => by
    obtain ⟨r, hr⟩ := prO_pre l d i k
    exact ⟨r ++ prI l d (i + k) (l.length - (i + k + 1)), by
      show prO l d (i + k) ++ _ = _
      rw [hr, List.append_assoc]; rfl⟩
theorem nth_mid {α : Type} [Inhabited α] (A B : List α) (x : α) : nth (A ++ x :: B) A.length = x := by
  unfold nth; simp
theorem pr_at {l : List Incident} {d : Int} {i m : Nat} (hm : i + 1 + m < l.length) (h : pairB l d i (i + 1 + m) = true) :
    (prO l d i ++ prI l d i m).length < (prO l d l.length).length ∧ nth (prO l d l.length) (prO l d i ++ prI l d i m).length = [(i : Int), ((i + 1 + m : Nat) : Int)] := by
  obtain ⟨r1, h1⟩ := prO_pre l d (i + 1) (l.length - (i + 1))
  obtain ⟨r2, h2⟩ := prI_pre l d i (m + 1) (l.length - (i + 1) - (m + 1))
  rw [show i + 1 + (l.length - (i + 1)) = l.length by omega] at h1
  rw [show m + 1 + (l.length - (i + 1) - (m + 1)) = l.length - (i + 1) by omega, prI_y h] at h2
  have h3 : prO l d l.length = (prO l d i ++ prI l d i m) ++ [(i : Int), ((i + 1 + m : Nat) : Int)] :: (r2 ++ r1) := by
    rw [h1]
    show (prO l d i ++ prI l d i (l.length - (i + 1))) ++ r1 = _
    rw [h2]; simp
  rw [h3]
  exact ⟨by rw [List.length_append]; simp, nth_mid _ _ _⟩
theorem wi_1 {l : List Incident} {d : Int} (h : incidentList l = false) : wiV l d = (0, 0, 1) := by unfold wiV; rw [h]; rfl
theorem wi_2 {l : List Incident} {d : Int} (h : incidentList l = true) (h2 : inB d 1 1000 = false) : wiV l d = (0, 0, 2) := by unfold wiV; rw [h, h2]; rfl
theorem wi_3 {l : List Incident} {d : Int} (h : incidentList l = true) (h2 : inB d 1 1000 = true) (h3 : l.length = 0) : wiV l d = (0, 0, 3) := by unfold wiV; rw [h, h2, if_pos rfl, if_pos rfl, if_pos h3]
theorem wi_0 {l : List Incident} {d : Int} (h : incidentList l = true) (h2 : inB d 1 1000 = true) (h3 : l.length ≠ 0) : wiV l d = (((withI l d l.length).1 : Int), (withI l d l.length).2, 0) := by unfold wiV; rw [h, h2, if_pos rfl, if_pos rfl, if_neg h3]
set_option maxRecDepth 100000 in
set_option maxHeartbeats 16000000 in
theorem calm_law (w : World) (a0 : Option Addr) (cap0 : Nat) (l0 : List UInt8) (H0 : RowsAt 1 (fun (x : UInt8) (_ : Nat) => Value.int .u8 x.toNat) w a0 l0) (_ : ∀ k, k < l0.length → True) (hn0 : l0.length ≤ 9223372036854775807) (_ : l0.length ≤ cap0)
    (a1 : Option Addr) (cap1 : Nat) (l1 : List UInt8) (H1 : RowsAt 1 (fun (x : UInt8) (_ : Nat) => Value.int .u8 x.toNat) w a1 l1) (_ : ∀ k, k < l1.length → True) (hn1 : l1.length ≤ 9223372036854775807) (_ : l1.length ≤ cap1) :
    Gives Try.prog 5 #[.slice a0 l0.length cap0, .slice a1 l1.length cap1] w (.bool true) := by
  unfold Gives
  have B0 := Lib.hid (ByteAt.of8 H0)
  have B1 := Lib.hid (ByteAt.of8 H1)
  have R0 := Lib.hid (byte_range l0)
  have R1 := Lib.hid (byte_range l1)
  rw [show l0.length = (l0.map fun x => (x.toNat : Int)).length by simp] at hn0 ⊢
  rw [show l1.length = (l1.map fun x => (x.toNat : Int)).length by simp] at hn1 ⊢
  clear H0 H1
  generalize (l0.map fun x => (x.toNat : Int)) = code at *
  generalize (l1.map fun x => (x.toNat : Int)) = more at *
  have HL0 := Lib.hid (b10Long_any a0 code.length cap0 w)
  have HL1 := Lib.hid (b10Long_any a1 more.length cap1 w)
  rcases Nat.lt_or_ge 1048576 code.length with f0 | f0
  · have hd : decide (1048576 < (code.length : Int)) = true := decide_eq_true (by omega)
    rw [hd] at HL0
    clear hd
    go_enter Try.func5, Try.ntmps5
    go_wp2_with fail
    refine HL0.out.mono ?_
    rintro e w' ⟨rfl, rfl⟩
    go_wp2_with fail
    go_ret
    exact ⟨rfl, Ext.refl _⟩
  have hd : decide (1048576 < (code.length : Int)) = false := decide_eq_false (by omega)
  rw [hd] at HL0
  clear hd
  rcases Nat.lt_or_ge 1048576 more.length with f1 | f1
  · have hd : decide (1048576 < (more.length : Int)) = true := decide_eq_true (by omega)
    rw [hd] at HL1
    clear hd
    go_enter Try.func5, Try.ntmps5
    go_wp2_with fail
    refine HL0.out.mono ?_
    rintro e w' ⟨rfl, rfl⟩
    go_wp2_with fail
    refine HL1.out.mono ?_
    rintro e w' ⟨rfl, rfl⟩
    go_wp2_with fail
    go_ret
    exact ⟨rfl, Ext.refl _⟩
  have hd : decide (1048576 < (more.length : Int)) = false := decide_eq_false (by omega)
  rw [hd] at HL1
  clear hd
  go_enter Try.func5, Try.ntmps5
  go_wp2_with fail
  refine HL0.out.mono ?_
  rintro e w' ⟨rfl, rfl⟩
  clear HL0
  go_wp2_with fail
  refine HL1.out.mono ?_
  rintro e w' ⟨rfl, rfl⟩
  clear HL1
  go_wp2_with fail
  refine (DrawCalmDays_any w' a0 cap0 code B0.out R0.out f0).mono ?_
  rintro e w1 ⟨v, l, fr, un, rfl, hl, hA, hL, hfr, hun, E1⟩
  obtain ⟨oa, oc, rfl, hoc, -, hR, -⟩ := hL.shape
  have hA := Lib.hid hA
  have hR := Lib.hid hR
  have E1 := Lib.hid E1
  clear hL B0 R0 f0
  go_wp2_with fail
  refine (CalmDays_any w1 oa oc l hR.out hA.out.small (by omega) fr un).mono ?_
  rintro e w2 ⟨p, q, c, rfl, hc, E2⟩
  have hc := Lib.hid hc
  have E2 := Lib.hid E2
  go_upto_if 50 with fail
  go_cut [11] from 51 to 89 (fun s11 wx => Ext w' wx)
  case first =>
    have hrd := Lib.hid fun k (hk : k < l.length) => (hA.out.at k hk).day
    clear hA R1 B1
    by_cases h0 : c = 0
    · subst h0
      obtain ⟨hq, hp, hpu, hno⟩ := hc.out rfl
      have hno := Lib.hid hno
      clear hc
      have d1 : decide (q < 1) = false := decide_eq_false (by omega)
      have d2 : decide (p < fr) = false := decide_eq_false (by omega)
      have d3 : decide (un < p + q - 1) = false := decide_eq_false (by omega)
      go_wp2_with fail
      clear d1 d2 d3
      go_loopw [11] (fun i wr => ∃ k : Nat, k ≤ l.length ∧ i = .int .i64 k ∧ Ext w1 wr) (fun i _ => l.length - (intOf i).toNat)
      case atStart => exact ⟨0, Nat.zero_le _, rfl, E2.out⟩
      case round =>
        obtain ⟨k, hk, rfl, he⟩ := hrel
        by_cases hlt : k < l.length
        · have hRR := hR.out.ext he
          obtain ⟨b, off, rfl⟩ := hRR.base hlt
          obtain ⟨hb, c0, c1, c2, c3, c4, c5⟩ := Incident.at hRR k hlt
          have hnk := hno.out k hlt
          have hdk := hrd.out k hlt
          have he := Lib.hid he
          clear hRR c1 c2 c3 c4 c5
          have hl1 : decide (k < l.length) = true := decide_eq_true hlt
          by_cases hge : p ≤ (nth l k).day
          · have e1 : decide (p ≤ (nth l k).day) = true := decide_eq_true hge
            have e2 : decide ((nth l k).day < p + q) = false := decide_eq_false (by omega)
            go_wp2_with fail
            go_roundw
            case rel => exact ⟨k + 1, by omega, by go_num, he.out⟩
            case measure => simp [intOf]; omega
          · have e1 : decide (p ≤ (nth l k).day) = false := decide_eq_false hge
            go_wp2_with fail
            go_roundw
            case rel => exact ⟨k + 1, by omega, by go_num, he.out⟩
            case measure => simp [intOf]; omega
        · have hl1 : decide (k < l.length) = false := decide_eq_false hlt
          go_wp2_with fail
          go_meet
          case rel => exact E1.out.trans he
    · have h0' : (c == 0) = false := beq_eq_false_iff_ne.2 h0
      go_wp2_with fail
      go_meet
      case rel => exact E1.out.trans E2.out
  case rest =>
    clear hc hR hA E1 E2 hfr hun
    have B1 := Lib.hid (RowsAt.ext B1.out hcut)
    have hcut := Lib.hid hcut
    go_wp2_with fail
    refine (DrawWithinDays_any wc a1 cap1 more B1.out R1.out f1).mono ?_
    rintro e w3 ⟨v2, I, d, rfl, hI, hA, hL, hd, E3⟩
    obtain ⟨ia, ic, rfl, hic, -, hR, -⟩ := hL.shape
    have HA := Lib.hid hA
    have HR := Lib.hid hR
    have E3 := Lib.hid (hcut.out.trans E3)
    have HWd := Lib.hid fun (W : World) (he : Ext w3 W) => WithinDays_any W ia ic I (RowsAt.ext HR.out he) HA.out.small (by omega) hic d (by omega) (by omega)
    have HSP := Lib.hid fun (W : World) (he : Ext w3 W) => implSamePlace_any W ia ic I (RowsAt.ext HR.out he) HA.out.small (by omega) hic d
    clear hL hR hA hcut B1 R1 f1
    cases h1 : incidentList I
    · rw [wi_1 h1] at HWd
      obtain ⟨s1, s2⟩ := same_1 (d := d) h1
      rw [s1, s2] at HSP
      clear s1 s2 h1
      go_wp2_with fail
      refine (HWd.out w3 (Ext.refl _)).mono ?_
      rintro e w4 ⟨rfl, E4⟩
      go_wp2_with fail
      refine (HSP.out w4 E4).mono ?_
      rintro e w5 ⟨v3, vs, gs, he5, HB, E5⟩
      have he5' : e = .returned (.tuple #[v3, .int .i64 1]) := he5
      subst he5'
      obtain ⟨pa, pc, rfl, -, -, -, -⟩ := HB.out
      have EE := Lib.hid (E3.out.trans (E4.trans E5))
      clear HWd HSP E4 E5 HB he5 HR HA E3
      go_wp2_with fail
      go_ret
      exact ⟨rfl, EE.out⟩
    cases h2 : inB d 1 1000
    · rw [wi_2 h1 h2] at HWd
      obtain ⟨s1, s2⟩ := same_2 h1 h2
      rw [s1, s2] at HSP
      clear s1 s2 h1 h2
      go_wp2_with fail
      refine (HWd.out w3 (Ext.refl _)).mono ?_
      rintro e w4 ⟨rfl, E4⟩
      go_wp2_with fail
      refine (HSP.out w4 E4).mono ?_
      rintro e w5 ⟨v3, vs, gs, he5, HB, E5⟩
      have he5' : e = .returned (.tuple #[v3, .int .i64 2]) := he5
      subst he5'
      obtain ⟨pa, pc, rfl, -, -, -, -⟩ := HB.out
      have EE := Lib.hid (E3.out.trans (E4.trans E5))
      clear HWd HSP E4 E5 HB he5 HR HA E3
      go_wp2_with fail
      go_ret
      exact ⟨rfl, EE.out⟩
    obtain ⟨s1, s2⟩ := same_0 h1 h2
    rw [s1, s2] at HSP
    clear s1 s2
    by_cases h3 : I.length = 0
    · rw [wi_3 h1 h2 h3] at HWd
      have hp0 : prO I d I.length = [] := by rw [h3]; rfl
      rw [hp0] at HSP
      have hi0 : I = [] := List.length_eq_zero_iff.1 h3
      clear h1 h2 h3 hp0
      subst hi0
      go_wp2_with fail
      refine (HWd.out w3 (Ext.refl _)).mono ?_
      rintro e w4 ⟨rfl, E4⟩
      go_wp2_with fail
      refine (HSP.out w4 E4).mono ?_
      rintro e w5 ⟨v3, vs, gs, he5, HB, E5⟩
      have he5' : e = .returned (.tuple #[v3, .int .i64 0]) := he5
      subst he5'
      obtain ⟨pa, pc, rfl, -, -, -, -⟩ := HB.out
      have EE := Lib.hid (E3.out.trans (E4.trans E5))
      clear HWd HSP E4 E5 HB he5 HR HA E3
      go_wp2_with fail
      go_loopw [26, 27] (fun o i wr => o = .int .i64 0 ∧ i = .int .i64 0 ∧ wr = w5) (fun _ _ _ => 0)
      case atStart => exact ⟨rfl, rfl, rfl⟩
      case round =>
        obtain ⟨rfl, rfl, rfl⟩ := hrel
        go_wp2_with fail
        go_ret
        exact ⟨rfl, EE.out⟩
    have hI0 : 0 < I.length := by omega
    obtain ⟨hin1, hin2⟩ := inB_iff.1 h2
    obtain ⟨g1, g2, g3, g4⟩ := within_law h1 hI0 hin1 hin2
    have hS : -1 ≤ (withI I d I.length).2 ∧ (withI I d I.length).2 ≤ 40000 := by
      rcases withI_from I d I.length with h0 | ⟨b, hb, -, e2⟩
      · omega
      · rw [e2]; exact (HA.out.at b hb).day
    have HWk := Lib.hid fun (W : World) (he : Ext w3 W) => WithinDays_any W ia ic I (RowsAt.ext HR.out he) HA.out.small (by omega) hic 1000 (by omega) (by omega)
    rw [wi_0 h1 (d := 1000) (by decide) h3] at HWk
    rw [wi_0 h1 h2 h3] at HWd
    have hday := Lib.hid fun k (hk : k < I.length) => (HA.out.at k hk).day
    have HBS := Lib.hid fun (W : World) (he : Ext w3 W) (s : ByteArray) => BuriedShare_any W ia ic I (RowsAt.ext HR.out he) HA.out.small (by omega) s
    clear h1 h2 h3
    obtain ⟨N1, hN1⟩ : ∃ N1, N1 = (withI I d I.length).1 := ⟨_, rfl⟩
    obtain ⟨S, hSS⟩ : ∃ S, S = (withI I d I.length).2 := ⟨_, rfl⟩
    obtain ⟨N2, hN2⟩ : ∃ N2, N2 = (withI I 1000 I.length).1 := ⟨_, rfl⟩
    rw [← hN1, ← hSS] at HWd g2
    rw [← hN1] at g1 g3
    rw [← hSS] at hS
    rw [← hN2] at HWk g3 g4
    obtain ⟨S2, hS2⟩ : ∃ S2, S2 = (withI I 1000 I.length).2 := ⟨_, rfl⟩
    rw [← hS2] at HWk
    clear hN1 hSS hN2 hS2
    have hown := Lib.hid g2
    clear g2
    go_wp2_with fail
    refine (HWd.out w3 (Ext.refl _)).mono ?_
    rintro e w4 ⟨rfl, E4⟩
    clear HWd
    go_wp2_with fail
    refine (HSP.out w4 E4).mono ?_
    rintro e w5 ⟨v3, vs, gs, he5, HB, E5⟩
    have he5' : e = .returned (.tuple #[v3, .int .i64 0]) := he5
    subst he5'
    obtain ⟨P, hP⟩ : ∃ P, P = prO I d I.length := ⟨_, rfl⟩
    have hpr := Lib.hid fun (i m : Nat) (hm : i + 1 + m < I.length) (h : pairB I d i (i + 1 + m) = true) => pr_at hm h
    have hPl : P.length ≤ 5000 := by
      have e2 := prO_len I d I.length
      have e4 : I.length * I.length ≤ 49 * 49 := Nat.mul_le_mul hI hI
      rw [hP]; omega
    rw [← hP] at HB hpr
    have hPh := Lib.hid hP
    clear hP
    obtain ⟨pa, pc, rfl, hpc, -, -, -⟩ := HB.out
    have HB := Lib.hid HB
    have E5 := Lib.hid (E4.trans E5)
    clear HSP E4 he5
    go_wp2_with fail
    go_loopw [19, 20] (fun o i wr => ∃ k : Nat, k ≤ I.length ∧ o = .int .i64 ((ownG I S d k : Nat) : Int) ∧ i = .int .i64 k ∧ Ext w5 wr) (fun _ i _ => I.length - (intOf i).toNat)
    case atStart => exact ⟨0, Nat.zero_le _, rfl, rfl, Ext.refl _⟩
    case round =>
      obtain ⟨k, hk, rfl, rfl, he⟩ := hrel
      have hol := cntO_le I S d k
      by_cases hlt : k < I.length
      · have hRR := RowsAt.ext HR.out (E5.out.trans he)
        obtain ⟨b, off, rfl⟩ := RowsAt.base hRR hlt
        obtain ⟨hb, c0, c1, c2, c3, c4, c5⟩ := Incident.at hRR k hlt
        have hdk := hday.out k hlt
        have hbs := Lib.hid (HBS.out wr (E5.out.trans he) (nth I k).cause)
        have he := Lib.hid he
        have hl1 : decide (k < I.length) = true := decide_eq_true hlt
        have hst : Hid (ownG I S d (k + 1) = ownG I S d k + (if S ≤ (nth I k).day ∧ (nth I k).day < S + d then 1 else 0)) := rfl
        obtain ⟨O, hO⟩ : ∃ O, O = ownG I S d k := ⟨_, rfl⟩
        rw [← hO] at hst hol ⊢
        clear hO hRR c1 c3 c4 c5
        by_cases hge : S ≤ (nth I k).day
        · have e1 : decide (S ≤ (nth I k).day) = true := decide_eq_true hge
          by_cases hlo : (nth I k).day < S + d
          · have e2 : decide ((nth I k).day < S + d) = true := decide_eq_true hlo
            have hst1 : Hid (ownG I S d (k + 1) = O + 1) := by show _ = _; rw [hst.out, if_pos ⟨hge, hlo⟩]
            clear hst
            go_wp2_with fail
            refine hbs.out.mono ?_
            rintro e w6 ⟨p6, c6, rfl, hp6, E6⟩
            have he := Lib.hid (he.out.trans E6)
            clear hbs E6
            by_cases hc6 : c6 = 0
            · subst hc6
              obtain ⟨p60, p61⟩ := hp6 rfl
              clear hp6
              have d1 : decide (p6 < 0) = false := decide_eq_false (by omega)
              have d2 : decide (1000 < p6) = false := decide_eq_false (by omega)
              go_wp2_with fail
              go_roundw
              case rel => exact ⟨k + 1, by omega, by rw [hst1.out]; try go_num, by go_num, he.out⟩
              case measure => simp [intOf]; omega
            · have hc6' : (c6 == 0) = false := beq_eq_false_iff_ne.2 hc6
              clear hp6
              go_wp2_with fail
              go_roundw
              case rel => exact ⟨k + 1, by omega, by rw [hst1.out]; try go_num, by go_num, he.out⟩
              case measure => simp [intOf]; omega
          · have e2 : decide ((nth I k).day < S + d) = false := decide_eq_false hlo
            have hst1 : Hid (ownG I S d (k + 1) = O) := by show _ = _; rw [hst.out, if_neg (fun h => hlo h.2)]; rfl
            clear hst
            go_wp2_with fail
            refine hbs.out.mono ?_
            rintro e w6 ⟨p6, c6, rfl, hp6, E6⟩
            have he := Lib.hid (he.out.trans E6)
            clear hbs E6
            by_cases hc6 : c6 = 0
            · subst hc6
              obtain ⟨p60, p61⟩ := hp6 rfl
              clear hp6
              have d1 : decide (p6 < 0) = false := decide_eq_false (by omega)
              have d2 : decide (1000 < p6) = false := decide_eq_false (by omega)
              go_wp2_with fail
              go_roundw
              case rel => exact ⟨k + 1, by omega, by rw [hst1.out]; try go_num, by go_num, he.out⟩
              case measure => simp [intOf]; omega
            · have hc6' : (c6 == 0) = false := beq_eq_false_iff_ne.2 hc6
              clear hp6
              go_wp2_with fail
              go_roundw
              case rel => exact ⟨k + 1, by omega, by rw [hst1.out]; try go_num, by go_num, he.out⟩
              case measure => simp [intOf]; omega
        · have e1 : decide (S ≤ (nth I k).day) = false := decide_eq_false hge
          have hst1 : Hid (ownG I S d (k + 1) = O) := by show _ = _; rw [hst.out, if_neg (fun h => hge h.1)]; rfl
          clear hst
          go_wp2_with fail
          refine hbs.out.mono ?_
          rintro e w6 ⟨p6, c6, rfl, hp6, E6⟩
          have he := Lib.hid (he.out.trans E6)
          clear hbs E6
          by_cases hc6 : c6 = 0
          · subst hc6
            obtain ⟨p60, p61⟩ := hp6 rfl
            clear hp6
            have d1 : decide (p6 < 0) = false := decide_eq_false (by omega)
            have d2 : decide (1000 < p6) = false := decide_eq_false (by omega)
            go_wp2_with fail
            go_roundw
            case rel => exact ⟨k + 1, by omega, by rw [hst1.out]; try go_num, by go_num, he.out⟩
            case measure => simp [intOf]; omega
          · have hc6' : (c6 == 0) = false := beq_eq_false_iff_ne.2 hc6
            clear hp6
            go_wp2_with fail
            go_roundw
            case rel => exact ⟨k + 1, by omega, by rw [hst1.out]; try go_num, by go_num, he.out⟩
            case measure => simp [intOf]; omega
      · obtain rfl : k = I.length := by omega
        have hl1 : decide (I.length < I.length) = false := decide_eq_false (by omega)
        rw [hown.out] at hol ⊢
        clear HBS
        go_wp2_with fail
        refine (HWk.out wr (E5.out.trans he)).mono ?_
        rintro e w6 ⟨rfl, E6⟩
        have he := Lib.hid (he.trans E6)
        clear HWk E6
        have d1 : ((N1 : Int) != (N1 : Int)) = false := by simp
        have d2 : decide ((N1 : Int) < 1) = false := decide_eq_false (by omega)
        have d3 : decide (N2 < N1) = false := decide_eq_false (by omega)
        have d4 : decide (I.length < N2) = false := decide_eq_false (by omega)
        go_wp2_with fail
        clear d1 d2 d3 d4 hol hl1
        have hbO := Lib.hid fun k (hk : k ≤ I.length) => (show (prO I d k).length ≤ 2401 by
          have h1 := prO_len I d k
          have h2 : k * I.length ≤ 49 * 49 := Nat.mul_le_mul (by omega) hI
          omega)
        clear hown hic hoc
        go_loopw [26, 27] (fun o i wt => ∃ j : Nat, j ≤ I.length ∧ o = .int .i64 ((prO I d j).length : Int) ∧ i = .int .i64 j ∧ Ext w5 wt) (fun _ i _ => I.length - (intOf i).toNat)
        case atStart => exact ⟨0, Nat.zero_le _, rfl, rfl, he.out⟩
        case round =>
          clear he
          obtain ⟨j, hj, rfl, rfl, he⟩ := hrel
          have hbj := hbO.out j hj
          by_cases hlj : j < I.length
          · have hd0 : decide ((j : Int) < (I.length : Int)) = true := decide_eq_true (by omega)
            have he := Lib.hid he
            go_wp2_with fail
            go_loopw [26, 28] (fun o i wt => ∃ m : Nat, j + 1 + m ≤ I.length ∧ o = .int .i64 ((prO I d j ++ prI I d j m).length : Int) ∧ i = .int .i64 ((j + 1 + m : Nat) : Int) ∧ Ext w5 wt) (fun _ i _ => I.length - (intOf i).toNat)
            case atStart => exact ⟨0, by omega, by rw [show prI I d j 0 = [] from rfl, List.append_nil], by go_num, he.out⟩
            case round =>
              clear he hd0
              obtain ⟨m, hm, rfl, rfl, he⟩ := hrel
              have hbm : (prO I d j ++ prI I d j m).length ≤ 2500 := by
                have := prI_len I d j m
                rw [List.length_append]; omega
              obtain ⟨A, hAA⟩ : ∃ A, A = (prO I d j ++ prI I d j m).length := ⟨_, rfl⟩
              obtain ⟨k, hk2⟩ : ∃ k, k = j + 1 + m := ⟨_, rfl⟩
              rw [← hAA] at hbm ⊢
              rw [← hk2] at hm ⊢
              have hAh := Lib.hid hAA
              have hkh := Lib.hid hk2
              clear hAA hk2
              by_cases hlk : k < I.length
              · have hRR := RowsAt.ext HR.out (E5.out.trans he)
                obtain ⟨b, off, rfl⟩ := RowsAt.base hRR hlj
                obtain ⟨hb, c0, c1, -, -, -, -⟩ := Incident.at hRR j hlj
                obtain ⟨-, p0, p1, -, -, -, -⟩ := Incident.at hRR k hlk
                have hdj := hday.out j hlj
                have hdk2 := hday.out k hlk
                clear hRR
                have hdk : decide ((k : Int) < (I.length : Int)) = true := decide_eq_true (by omega)
                have hPB : Hid (pairB I d j (j + 1 + m) = (sEq (nth I j).place (nth I k).place && decide ((nth I k).day - (nth I j).day ≤ d))) := by show _ = _; rw [← hkh.out]; unfold pairB; rw [sEq_comm]
                have he2 := Lib.hid he
                clear he
                cases hp : sEq (nth I j).place (nth I k).place
                · have hn := Lib.hid (prI_n (l := I) (d := d) (i := j) (m := m) (by rw [hPB.out, hp]; rfl))
                  clear hPB
                  go_wp2_with fail
                  refine region_quiet (by kernel_rfl) (by kernel_rfl) ?_
                  repeat (any_goals (first | go_big_quiet_step ((fail)) | quiet_step ((fail))))
                  refine wpQuiet_nil ?_
                  intro _ hw'
                  obtain ⟨y, hw''⟩ := hw'
                  subst hw''
                  go_wp2
                  go_roundw
                  case rel => exact ⟨m + 1, by have := hkh.out; omega, by rw [hn.out, ← hAh.out], by have := hkh.out; simp only [Value.int.injEq, true_and]; omega, he2.out.lift y⟩
                  case measure => simp [intOf]; omega
                · cases hq : decide ((nth I k).day - (nth I j).day ≤ d)
                  · have hn := Lib.hid (prI_n (l := I) (d := d) (i := j) (m := m) (by rw [hPB.out, hp, hq]; rfl))
                    clear hPB
                    go_wp2_with fail
                    refine region_quiet (by kernel_rfl) (by kernel_rfl) ?_
                    repeat (any_goals (first | go_big_quiet_step ((fail)) | quiet_step ((fail))))
                    refine wpQuiet_nil ?_
                    intro _ hw'
                    obtain ⟨y, hw''⟩ := hw'
                    subst hw''
                    go_wp2
                    go_roundw
                    case rel => exact ⟨m + 1, by have := hkh.out; omega, by rw [hn.out, ← hAh.out], by have := hkh.out; simp only [Value.int.injEq, true_and]; omega, he2.out.lift y⟩
                    case measure => simp [intOf]; omega
                  · have hpb : pairB I d j (j + 1 + m) = true := by rw [hPB.out, hp, hq]; rfl
                    have hn := Lib.hid (prI_y hpb)
                    obtain ⟨hlA, hvA⟩ := hpr.out j m (by rw [← hkh.out]; exact hlk) hpb
                    rw [← hAh.out] at hlA hvA
                    rw [← hkh.out] at hvA
                    have hvA := Lib.hid hvA
                    clear hPB hpb
                    go_wp2_with fail
                    refine region_quiet (by kernel_rfl) (by kernel_rfl) ?_
                    repeat (any_goals (first | go_big_quiet_step ((fail)) | quiet_step ((fail))))
                    refine wpQuiet_nil ?_
                    intro _ hw'
                    obtain ⟨y, hw''⟩ := hw'
                    subst hw''
                    have hE3 := Lib.hid (he2.out.lift y)
                    clear he2 c0 c1 p0 p1 hb
                    generalize lift _ y = W at *
                    have HII := HB.out.ext hE3.out
                    obtain ⟨pb, po, rfl⟩ := RowsAt.base HII.iis.row (by rw [HII.iis.len]; exact hlA)
                    obtain ⟨hpb, ad, cp, hcell, -, hIA⟩ := HII.iis.at hlA
                    rw [hvA.out] at hcell hIA
                    have hcell : W.cell? ⟨pb, po + A, none⟩ = some (.slice ad 2 cp) := hcell
                    have dA : decide ((P.length : Int) ≤ (A : Int)) = false := decide_eq_false (by omega)
                    have hBN := Lib.hid (b10Nums_same ad cp (some ⟨W.heap.size, 0, none⟩) 2 [(j : Int), (k : Int)] (W.alloc (.cells #[.int .i64 (j : Int), .int .i64 (k : Int)] 2)) (RowsAt.ext hIA ((Ext.refl _).alloc _)) (rows_lit (cell := cellJ) W #[.int .i64 (j : Int), .int .i64 (k : Int)] [(j : Int), (k : Int)] (fun q hq => by rcases (show q = 0 ∨ q = 1 by simp at hq; omega) with rfl | rfl <;> rfl) rfl) (by simp))
                    clear HII hIA hvA
                    go_wp2_with fail
                    refine hBN.out.mono ?_
                    rintro e w7 ⟨rfl, E7⟩
                    have hE4 := Lib.hid ((hE3.out.alloc _).trans E7)
                    clear hBN hcell E7 hE3
                    go_wp2_with fail
                    go_roundw
                    case rel => exact ⟨m + 1, by have := hkh.out; omega, by rw [hn.out, ← List.append_assoc, List.length_append, ← hAh.out]; go_num, by have := hkh.out; simp only [Value.int.injEq, true_and]; omega, hE4.out⟩
                    case measure => simp [intOf]; omega
              · have hke : k = I.length := by omega
                have hml : Hid (m = I.length - (j + 1)) := by show _ = _; have := hkh.out; omega
                have hdk : decide ((k : Int) < (I.length : Int)) = false := decide_eq_false (by omega)
                clear hke
                go_wp2_with fail
                go_roundw
                case rel => exact ⟨j + 1, by omega, by rw [hAh.out, hml.out]; rfl, by go_num, he⟩
                case measure => simp [intOf]; omega
          · obtain rfl : j = I.length := by omega
            have hd0 : decide ((I.length : Int) < (I.length : Int)) = false := decide_eq_false (by omega)
            rw [← hPh.out]
            have EE := Lib.hid (E3.out.trans (E5.out.trans he))
            clear hbO he hPh hbj HB hpr
            go_wp2_with fail
            go_ret
            exact ⟨ret_bool (by simp), EE.out⟩
open Go.ChangeShapes Go.WideShapes Go.ChangeAt
open Go.ChangeMaps (open_string shut_string)
namespace lawFnCalm
set_option maxRecDepth 100000 in
theorem lifted (os : Os) (started : os.Started) (H : Type) (enc : TypeId × Value → H) :
    ReturnsInHanded {} Try.checked os 5 .any (Rows.fnCalmSpec.pre6 enc Try.prog Try.f5 Rows.fnCalmRow.domain false) (Rows.fnCalmSpec.post enc Try.prog Try.f5 false true false false) := by
  refine returnsInHanded_of_change (C := Try.checked) own started (by kernel_rfl) Try.func5
    (ChangeSpec.witness6 (enc := enc) (C := Try.checked) false ⟨#[], #[.slice none 0 0, .slice none 0 0], []⟩ 8 (by kernel_rfl) (by kernel_rfl) (by kernel_rfl) (by kernel_rfl)) ?_
  intro W base args ds gs before hval0 hW hcnd _
  have hval : ∀ (j : Nat) t v, Try.f5.params[j]? = some t → args[j]? = some v → Value.okWide Try.prog W .any base t v := hval0
  have hW' := hW
  obtain ⟨p, q, hA0, hV, rfl, hfz, hnd⟩ := hW
  have hA : DataW.TrodAll enc Try.prog W 0 (fun _ => true) true Try.f5.params.toList args.toList ds p := hA0
  rw [Try.params5] at hA hval
  obtain ⟨v0, vs0, d0, ds0, p0, q0, hargs, rfl, rfl, h0, r0⟩ := trodAll_cons hA
  obtain ⟨v1, vs1, d1, ds1, p1, q1, rfl, rfl, rfl, h1, r1⟩ := trodAll_cons r0
  obtain ⟨rfl, rfl, rfl⟩ := trodAll_nil r1
  obtain rfl : args = #[v0, v1] := by cases args; simp_all
  obtain ⟨rfl, rfl⟩ := trodVars_none hV
  have k0 := h0
  have lt0 : ∀ x ∈ p0, x.block < W.heap.size := by obtain ⟨m, hm⟩ := k0; exact DataW.trod_lt m _ _ _ hm
  obtain ⟨a0, len0, cap0, rfl⟩ := okWide_slice Try.underlying37 (hval 0 37 v0 rfl rfl)
  obtain ⟨fuel0, hf0⟩ := h0
  obtain ⟨b0, c0, l0, e0, hl0, hc0, H0, Q0⟩ := open_rows (fun (x : UInt8) (_ : Nat) => Value.int .u8 x.toNat) (fun _ => True) Try.underlying37 (by kernel_rfl : Try.prog.cellsOf 5 = 1) (by decide) (fun _ _ _ => byte_el) hf0
  simp only [Value.cells, List.cons.injEq, Value.slice.injEq, and_true] at e0
  obtain ⟨rfl, rfl, rfl⟩ := e0
  have k1 := h1
  have lt1 : ∀ x ∈ p1, x.block < W.heap.size := by obtain ⟨m, hm⟩ := k1; exact DataW.trod_lt m _ _ _ hm
  obtain ⟨a1, len1, cap1, rfl⟩ := okWide_slice Try.underlying37 (hval 1 37 v1 rfl rfl)
  obtain ⟨fuel1, hf1⟩ := h1
  obtain ⟨b1, c1, l1, e1, hl1, hc1, H1, Q1⟩ := open_rows (fun (x : UInt8) (_ : Nat) => Value.int .u8 x.toNat) (fun _ => True) Try.underlying37 (by kernel_rfl : Try.prog.cellsOf 5 = 1) (by decide) (fun _ _ _ => byte_el) hf1
  simp only [Value.cells, List.cons.injEq, Value.slice.injEq, and_true] at e1
  obtain ⟨rfl, rfl, rfl⟩ := e1
  clear hA0 hval0
  refine (calm_law W a0 cap0 l0 H0 Q0 (by omega) hl0 a1 cap1 l1 H1 Q1 (by omega) hl1).mono fun e W' ⟨he, bx⟩ => ?_
  have bel := bx.below
  subst he
  exact ⟨_, rfl, _, _, _, [], _, [], hW', trodAll_mk1 (shut_bool Try.underlying4 _), (trodAll_cons_mk (Below.trod laidOut (by kernel_rfl) (of_decide_eq_true (by kernel_rfl)) k0 bel lt0) (trodAll_cons_mk (Below.trod laidOut (by kernel_rfl) (of_decide_eq_true (by kernel_rfl)) k1 bel lt1) trodAll_mk0)), rfl, bel.frame _, fun h => by cases h⟩
theorem over : Rows.fnCalmRow.holds Try.pinned (OpenSpec.ofChange Rows.fnCalmSpec) :=
  OpenClaim.holds_of_wide 5 Try.f5 rfl rfl rfl rfl rfl rfl rfl ⟨rfl, rfl, rfl, rfl, rfl⟩ rfl rfl rfl rfl rfl (by kernel_rfl) Try.func5 (by kernel_rfl)
    (of_decide_eq_true (by kernel_rfl)) (by unfold Func.isWrapper; first | (rw [if_pos (by decide +kernel)]; kernel_rfl) | (rw [if_neg (by decide +kernel)]; exact ⟨rfl, rfl⟩))
    (fun os started H enc _ => lifted os started H enc)
/-- The given statement. -/
theorem proved : Rows.FnCalmSaid := over
end lawFnCalm
end Go.Proofs.Ytndkcgiadpdcjaa

/- Chapter 22: the least slack of a plan. What the program's and the reference's functions hand back. -/
import Derived.Test.YtpmbaemfpkcjnaaEnds
namespace Go.Proofs.Ytpmbaemfpkcjnaa
open Go.RowKit
theorem planS_til {l : List Shot} {ord : List Int} {crews : Nat} (hc : 0 < crews) (h : ShotsOk l ord) : ∀ {k : Nat} {p : Plan}, k ≤ ord.length → planS l ord crews k = some p → ∀ j, j < k → (nth p.works j).fin ≤ (pickS l ord j).til
  | 0, _, _, _, j, hj => absurd hj (Nat.not_lt_zero _)
  | k + 1, q, hk, e, j, hj => by
    have e' : (planS l ord crews k).bind (stepP (pickS l ord k)) = some q := e
    cases hp : planS l ord crews k with
    | none => rw [hp] at e'; cases e'
    | some p =>
      rw [hp] at e'
      obtain ⟨h1, rfl⟩ := stepP_some e'
      have ok := planS_ok hc h (k := k) (by omega) hp
      rcases Nat.lt_or_ge j k with h3 | h3
      · rw [nth_append_left (by rw [ok.wlen]; exact h3)]; exact planS_til hc h (by omega) hp j h3
      · obtain rfl : j = k := by omega
        show (nth (p.works ++ _) j).fin ≤ _
        generalize hx : (p.works ++ _) = L
        have h9 : nth L j = nth L p.works.length := by rw [ok.wlen]
        rw [h9, ← hx, nth_append_last]
        exact h1
/-- What a plan with code 0 is. -/
theorem planC_ok {l : List Shot} {ord : List Int} {c : Int} (h : planC l ord c = 0) : ShotsOk l ord ∧ (planV l ord c).length = ord.length ∧ ∀ j, j < ord.length → (0 ≤ (nth (planV l ord c) j).fin ∧ (nth (planV l ord c) j).fin ≤ (pickS l ord j).til) ∧ (pickS l ord j).til ≤ 1440 := by
  have ha : askS l ord c = 0 := by
    unfold planC at h; split at h
    · assumption
    · assumption
  have hs := ShotsOk.of_ask ha
  have h3 := inB_iff.1 (askS_0 ha).2.2
  obtain ⟨k, hk⟩ := Int.eq_ofNat_of_zero_le (show 0 ≤ c by omega)
  subst hk
  have hb : worksB l ord k = true := by
    unfold planC at h; rw [if_pos ha] at h; split at h
    · assumption
    · cases h
  cases hp : planS l ord k ord.length with
  | none => unfold worksB at hb; rw [hp] at hb; cases hb
  | some p =>
    have hv : planV l ord (k : Int) = p.works := by rw [(planC_0 ha hb).2]; exact (works_some hp).2
    have ok := planS_ok (by omega) hs (Nat.le_refl _) hp
    have ht := planS_til (by omega) hs (Nat.le_refl _) hp
    refine ⟨hs, by rw [hv, ok.wlen], fun j hj => ?_⟩
    rw [hv]
    have := ok.works j hj
    have := shotB_bd (hs.pick hj)
    exact ⟨⟨by omega, ht j hj⟩, by omega⟩
def slackTo (l : List Shot) (ord : List Int) (c : Int) : Nat → Int
  | 0 => 1440
  | k + 1 => min (slackTo l ord c k) ((pickS l ord k).til - (nth (planV l ord c) k).fin)
theorem slackTo_bd {l : List Shot} {ord : List Int} {c : Int} (h : planC l ord c = 0) : ∀ {k : Nat}, k ≤ ord.length → 0 ≤ slackTo l ord c k ∧ slackTo l ord c k ≤ 1440
  | 0, _ => by simp [slackTo]
  | k + 1, hk => by
    have := slackTo_bd h (k := k) (by omega)
    have := (planC_ok h).2.2 k (by omega)
    simp only [slackTo]; omega
def slackC (l : List Shot) (ord : List Int) (c : Int) : Int := if planC l ord c = 0 then (if ord.length = 0 then 3 else 0) else planC l ord c
def slackV (l : List Shot) (ord : List Int) (c : Int) : Int := if slackC l ord c = 0 then slackTo l ord c ord.length else 0
theorem slack_no {l : List Shot} {ord : List Int} {c : Int} (h : planC l ord c ≠ 0) : slackC l ord c = planC l ord c ∧ slackV l ord c = 0 := by
  have e : slackC l ord c = planC l ord c := if_neg h
  exact ⟨e, by unfold slackV; rw [if_neg (by rw [e]; exact h)]⟩
theorem slack_3 {l : List Shot} {ord : List Int} {c : Int} (h : planC l ord c = 0) (h0 : ord.length = 0) : slackC l ord c = 3 ∧ slackV l ord c = 0 := by
  have e : slackC l ord c = 3 := by unfold slackC; rw [if_pos h, if_pos h0]
  exact ⟨e, by unfold slackV; rw [if_neg (by rw [e]; decide)]⟩
theorem slack_0 {l : List Shot} {ord : List Int} {c : Int} (h : planC l ord c = 0) (h0 : ord.length ≠ 0) : slackC l ord c = 0 ∧ slackV l ord c = slackTo l ord c ord.length := by
  have e : slackC l ord c = 0 := by unfold slackC; rw [if_pos h, if_neg h0]
  exact ⟨e, by unfold slackV; rw [if_pos e]⟩
set_option maxRecDepth 100000 in
set_option maxHeartbeats 4000000 in
theorem implSlackOf_any (w : World) (a : Option Addr) (cap : Nat) (l : List Shot) (H : ShotAt w a l) (hsz : ∀ k, k < l.length → (nth l k).Small) (hn : l.length ≤ 1048576) (_ : l.length ≤ cap)
    (a2 : Option Addr) (cap2 : Nat) (ord : List Int) (H2 : IntAt w a2 ord) (_ : ∀ k, k < ord.length → -9223372036854775808 ≤ nth ord k ∧ nth ord k ≤ 9223372036854775807) (hlen : ord.length ≤ 1048576) (hcap : ord.length ≤ cap2) (c : Int) :
    Gives Try.prog 16 #[.slice a l.length cap, .slice a2 ord.length cap2, .int .i64 c] w (.tuple #[.int .i64 (slackV l ord c), .int .i64 (slackC l ord c)]) := by
  unfold Gives
  have HP := Lib.hid (planWorks_any a cap l a2 cap2 ord c w H hsz hn H2 hlen hcap)
  have HA := Lib.hid H
  have HI := Lib.hid H2
  clear H H2 hsz
  cases h0 : (planC l ord c == 0)
  · have hne := beq_eq_false_iff_ne.1 h0
    have h0' : (planC l ord c != 0) = true := by rw [bne, h0]; rfl
    have hv := Lib.hid (slack_no hne)
    clear h0 hne
    go_enter Try.func16, Try.ntmps16
    go_wp2_with fail
    refine HP.out.mono ?_
    rintro e w2 ⟨a', cap', rfl, -, -, -, E⟩
    have T := Lib.hid E
    clear E
    go_wp2_with fail
    go_ret2
    exact ⟨ret_int2 hv.out.2.symm hv.out.1.symm, T.out⟩
  · have h0' : (planC l ord c != 0) = false := by rw [bne, h0]; rfl
    have hz : planC l ord c = 0 := beq_iff_eq.1 h0
    have hok := Lib.hid (planC_ok hz)
    have hbd : Hid (∀ k, k ≤ ord.length → 0 ≤ slackTo l ord c k ∧ slackTo l ord c k ≤ 1440) := fun k hk => slackTo_bd hz hk
    have hpl : (planV l ord c).length = ord.length := hok.out.2.1
    have hpl' := Lib.hid hpl
    by_cases hl0 : ord.length = 0
    · have hv := Lib.hid (slack_3 hz hl0)
      have hl0' : ((ord.length : Int) == 0) = true := by rw [hl0]; rfl
      clear h0 hz hpl hl0
      go_enter Try.func16, Try.ntmps16
      go_wp2_with fail
      refine HP.out.mono ?_
      rintro e w2 ⟨a', cap', rfl, -, -, -, E⟩
      have T := Lib.hid E
      clear E
      rw [hpl'.out]
      go_wp2_with fail
      go_ret2
      exact ⟨ret_int2 hv.out.2.symm hv.out.1.symm, T.out⟩
    · have hv := Lib.hid (slack_0 hz hl0)
      have hl0' : ((ord.length : Int) == 0) = false := by rw [beq_eq_false_iff_ne]; omega
      clear h0 hz hpl hl0
      go_enter Try.func16, Try.ntmps16
      go_wp2_with fail
      refine HP.out.mono ?_
      rintro e W ⟨a', cap', rfl, -, -, R, E⟩
      have R0 := Lib.hid R
      have E0 := Lib.hid E
      clear R E
      rw [hpl'.out]
      go_wp2_with fail
      go_loopw [10, 30] (fun s i wr => ∃ k : Nat, k ≤ ord.length ∧ i = .int .i64 k ∧ s = .int .i64 (slackTo l ord c k) ∧ Ext W wr) (fun _ i _ => ord.length - (intOf i).toNat)
      case atStart => exact ⟨0, Nat.zero_le _, rfl, rfl, Ext.refl W⟩
      case round =>
        obtain ⟨k, hk, rfl, rfl, he⟩ := hrel
        obtain ⟨sb0, sb1⟩ := hbd.out k hk
        by_cases hlt : k < ord.length
        · have hlt' : k < (planV l ord c).length := by rw [hpl'.out]; exact hlt
          obtain ⟨b3, off3, rfl⟩ := R0.out.base hlt'
          obtain ⟨hb3, w0, w1⟩ := Work.at (R0.out.ext he) k hlt'
          obtain ⟨b2, off2, rfl⟩ := HI.out.base hlt
          obtain ⟨hb2, d0⟩ := IntAt.at (HI.out.ext (E0.out.trans he)) k hlt
          obtain ⟨i0, i1⟩ := hok.out.1.ord k hlt
          obtain ⟨m, hm⟩ := Int.eq_ofNat_of_zero_le i0
          have hml : m < l.length := by omega
          obtain ⟨b, off, rfl⟩ := HA.out.base hml
          obtain ⟨hb, c0, c1, c2, c3, c4⟩ := Shot.at (HA.out.ext (E0.out.trans he)) m hml
          have hpk : pickS l ord k = nth l m := by unfold pickS; rw [hm]; rfl
          have hq := hok.out.2.2 k hlt
          rw [hpk] at hq
          obtain ⟨⟨q0, q1⟩, q2⟩ := hq
          rw [hm] at d0
          have hst : Hid (slackTo l ord c (k + 1) = min (slackTo l ord c k) ((nth l m).til - (nth (planV l ord c) k).fin)) := by show _ = _; simp only [slackTo]; rw [hpk]
          clear i0 i1 hm hpk hlt'
          rcases Int.lt_or_le (slackTo l ord c k) ((nth l m).til - (nth (planV l ord c) k).fin) with hm1 | hm1
          · have hst2 : Hid (slackTo l ord c (k + 1) = slackTo l ord c k) := by show _ = _; rw [hst.out]; omega
            go_wp2_with fail
            refine region_quiet (by kernel_rfl) (by kernel_rfl) ?_
            repeat (any_goals (first | go_big_quiet_step (fail) | quiet_step (fail)))
            refine wpQuiet_nil ?_
            intro _ hw'
            obtain ⟨y, hw''⟩ := hw'
            subst hw''
            go_wp2_with fail
            go_roundw
            case rel => exact ⟨k + 1, by omega, by go_num, by rw [hst2.out], (by repeat (first | exact he | refine Ext.lift ?_ _ | refine Ext.alloc ?_ _))⟩
            case measure => simp [intOf]; omega
          · have hst2 : Hid (slackTo l ord c (k + 1) = (nth l m).til - (nth (planV l ord c) k).fin) := by show _ = _; rw [hst.out]; omega
            go_wp2_with fail
            refine region_quiet (by kernel_rfl) (by kernel_rfl) ?_
            repeat (any_goals (first | go_big_quiet_step (fail) | quiet_step (fail)))
            refine wpQuiet_nil ?_
            intro _ hw'
            obtain ⟨y, hw''⟩ := hw'
            subst hw''
            go_wp2_with fail
            go_roundw
            case rel => exact ⟨k + 1, by omega, by go_num, by rw [hst2.out]; congr 1; split <;> omega, (by repeat (first | exact he | refine Ext.lift ?_ _ | refine Ext.alloc ?_ _))⟩
            case measure => simp [intOf]; omega
        · obtain rfl : k = ord.length := by omega
          go_wp2_with fail
          go_ret2
          exact ⟨ret_int2 hv.out.2.symm hv.out.1.symm, E0.out.trans he⟩
end Go.Proofs.Ytpmbaemfpkcjnaa

/- Pairs of incidents at a place: what the program hands back. -/
import Derived.Test.YtndkcgiadpdcjaaSameS
namespace Go.Proofs.Ytndkcgiadpdcjaa
open Go.RowKit
set_option maxRecDepth 100000 in
set_option maxHeartbeats 8000000 in
theorem implSamePlace_any (w : World) (a : Option Addr) (cap : Nat) (l : List Incident) (H : IncidentAt w a l) (hsz : ∀ k, k < l.length → (nth l k).Small) (hn : l.length ≤ 1048576) (hcap : l.length ≤ cap) (d : Int) :
    Calls Try.prog 25 #[.slice a l.length cap, .int .i64 d] w (OutII w (sameV l d) [.int .i64 (sameC l d)]) := by
  have _ := hcap
  have HA := Lib.hid H
  have HV := Lib.hid fun (w' : World) (he : Ext w w') => ValidIncidents_any a cap l w' (H.ext he) hsz hn
  clear H hsz
  cases h1 : incidentList l
  · have hv := Lib.hid (same_1 (d := d) h1)
    rw [h1] at HV
    clear h1
    go_enter Try.func25, Try.ntmps25
    go_wp2_with (go_at_call 41; refine (HV.out _ (by repeat (first | exact Ext.refl _ | refine Ext.lift ?_ _ | refine Ext.alloc ?_ _))).mono ?_; rintro e w' ⟨rfl, y, rfl⟩)
    go_ret2
    rw [hv.out.1, hv.out.2]
    exact ⟨_, [], fun _ => 0, rfl, BII.nil _ _ _, (by repeat (first | exact Ext.refl _ | refine Ext.lift ?_ _ | refine Ext.alloc ?_ _))⟩
  rw [h1] at HV
  cases h2 : inB d 1 1000
  · have hv := Lib.hid (same_2 h1 h2)
    clear h1
    go_enter Try.func25, Try.ntmps25
    go_wp2_with (first | (go_at_call 41; refine (HV.out _ (by repeat (first | exact Ext.refl _ | refine Ext.lift ?_ _ | refine Ext.alloc ?_ _))).mono ?_; rintro e w' ⟨rfl, y, rfl⟩) | (go_at_call 46; refine (daysOk_any _ _).mono ?_; rintro e w' ⟨rfl, rfl⟩; rw [h2]))
    go_ret2
    rw [hv.out.1, hv.out.2]
    exact ⟨_, [], fun _ => 0, rfl, BII.nil _ _ _, (by repeat (first | exact Ext.refl _ | refine Ext.lift ?_ _ | refine Ext.alloc ?_ _))⟩
  have hv := Lib.hid (same_0 h1 h2)
  have hone := Lib.hid (vAll_one (show vAll incidentB incB 48 l = true from h1))
  have hl48 : l.length ≤ 48 := vAll_len_le (show vAll incidentB incB 48 l = true from h1)
  clear h1
  go_enter Try.func25, Try.ntmps25
  go_wp2_with (first | (go_at_call 41; refine (HV.out _ (by repeat (first | exact Ext.refl _ | refine Ext.lift ?_ _ | refine Ext.alloc ?_ _))).mono ?_; rintro e w' ⟨rfl, y, rfl⟩) | (go_at_call 46; refine (daysOk_any _ _).mono ?_; rintro e w' ⟨rfl, rfl⟩; rw [h2]))
  clear HV h2
  go_loopw [6, 20] (fun o i wr => ∃ (j : Nat) (vs : List Sl) (gs : Nat → Nat), j ≤ l.length ∧ i = .int .i64 j ∧ Hid (BII wr w.heap.size o (prO l d j) vs gs) ∧ Ext w wr) (fun _ i _ => l.length - (intOf i).toNat)
  case atStart => exact ⟨0, [], fun _ => 0, Nat.zero_le _, rfl, BII.nil _ _ _, (by repeat (first | exact Ext.refl _ | refine Ext.lift ?_ _ | refine Ext.alloc ?_ _))⟩
  case round =>
    obtain ⟨j, vs, gs, hj, rfl, HB, he⟩ := hrel
    obtain ⟨wo, hwo⟩ : ∃ wo, wo = wr := ⟨_, rfl⟩
    subst hwo
    have hEh := Lib.hid he
    clear he
    by_cases hlt : j < l.length
    · have hd0 : decide ((j : Int) < (l.length : Int)) = true := decide_eq_true (by omega)
      obtain ⟨b, off, rfl⟩ := HA.out.base hlt
      obtain ⟨hb, c0, c1, c2, c3, c4, c5⟩ := Incident.at (HA.out.ext hEh.out) j hlt
      obtain ⟨w1, hw1⟩ : ∃ w1, w1 = wo.alloc (.cells #[.int .i64 (nth l j).day, .string (nth l j).place, .string (nth l j).cause, .int .i64 (nth l j).level, .int .i64 (nth l j).caught, .int .i64 (nth l j).buried] 44) := ⟨_, rfl⟩
      have E1 : Hid (Ext wo w1) := by rw [hw1]; exact (Ext.refl _).alloc _
      have xl : wo.heap.size < w1.heap.size := by rw [hw1, size_new]; omega
      have xc0 : Hid (w1.cell? ⟨wo.heap.size, 0, none⟩ = some (.int .i64 (nth l j).day)) := by show _ = _; rw [hw1, cell_new]; rfl
      have xc1 : Hid (w1.cell? ⟨wo.heap.size, 1, none⟩ = some (.string (nth l j).place)) := by show _ = _; rw [hw1, cell_new]; rfl
      go_wp2_with fail
      rw [← hw1]
      clear hw1 c0 c1 c2 c3 c4 c5 hb
      go_loopw [6, 9] (fun o i wr => ∃ (m : Nat) (vs : List Sl) (gs : Nat → Nat), j + 1 + m ≤ l.length ∧ i = .int .i64 ((j + 1 + m : Nat) : Int) ∧ Hid (BII wr w.heap.size o (prO l d j ++ prI l d j m) vs gs) ∧ Ext w wr ∧ wo.heap.size < wr.heap.size ∧ Hid (wr.cell? ⟨wo.heap.size, 0, none⟩ = some (.int .i64 (nth l j).day)) ∧ Hid (wr.cell? ⟨wo.heap.size, 1, none⟩ = some (.string (nth l j).place)) ∧ Hid (o.ownBlock ≠ some wo.heap.size)) (fun _ i _ => l.length - (intOf i).toNat)
      case atStart => exact ⟨0, vs, gs, by omega, by go_num, by show BII _ _ _ (prO l d j ++ []) _ _; rw [List.append_nil]; exact HB.out.ext E1.out, hEh.out.trans E1.out, xl, xc0.out, xc1.out, fun e => absurd (HB.out.lst.lt _ e) (Nat.lt_irrefl _)⟩
      case round =>
        clear HB hEh
        obtain ⟨m, vs2, gs2, hm, rfl, HB2, he2, xb, xh0, xh1, hob⟩ := hrel
        have xd0 := xh0.out
        have xd1 := xh1.out
        clear xc0 xc1 xl
        obtain ⟨k, hk⟩ : ∃ k, k = j + 1 + m := ⟨_, rfl⟩
        have hkh := Lib.hid hk
        have hm0 : k ≤ l.length := by omega
        rw [← hk]
        clear hk hm
        by_cases hlk : k < l.length
        · obtain ⟨hb, p0, p1, -, -, -, -⟩ := Incident.at (HA.out.ext he2) k hlk
          obtain ⟨dj0, dj1⟩ := (incidentB_bd (hone.out j hlt)).1
          obtain ⟨dk0, dk1⟩ := (incidentB_bd (hone.out k hlk)).1
          have hdk : decide ((k : Int) < (l.length : Int)) = true := decide_eq_true (by omega)
          have hPB : Hid (pairB l d j (j + 1 + m) = (sEq (nth l k).place (nth l j).place && decide ((nth l k).day - (nth l j).day ≤ d))) := by show _ = _; rw [← hkh.out]; unfold pairB; rfl
          have hEh2 := Lib.hid he2
          clear he2
          cases hp : sEq (nth l k).place (nth l j).place
          · have hn := Lib.hid (prI_n (l := l) (d := d) (i := j) (m := m) (by rw [hPB.out, hp]; rfl))
            go_wp2_with fail
            refine region_quiet (by kernel_rfl) (by kernel_rfl) ?_
            repeat (any_goals (first | go_big_quiet_step ((fail)) | quiet_step ((fail))))
            refine wpQuiet_nil ?_
            intro _ hw'
            obtain ⟨y, hw''⟩ := hw'
            subst hw''
            go_wp2
            go_roundw
            case rel => exact ⟨m + 1, vs2, gs2, by have := hkh.out; omega, by have := hkh.out; simp only [Value.int.injEq, true_and]; omega, by rw [hn.out]; exact HB2.out.ext ((Ext.refl _).lift y), hEh2.out.lift y, Nat.lt_of_lt_of_le xb ((Ext.refl _).lift y).size, ((Ext.refl _).lift y).cell xh0.out, ((Ext.refl _).lift y).cell xh1.out, hob.out⟩
            case measure => simp [intOf]; omega
          · cases hq : decide ((nth l k).day - (nth l j).day ≤ d)
            · have hn := Lib.hid (prI_n (l := l) (d := d) (i := j) (m := m) (by rw [hPB.out, hp, hq]; rfl))
              go_wp2_with fail
              refine region_quiet (by kernel_rfl) (by kernel_rfl) ?_
              repeat (any_goals (first | go_big_quiet_step ((fail)) | quiet_step ((fail))))
              refine wpQuiet_nil ?_
              intro _ hw'
              obtain ⟨y, hw''⟩ := hw'
              subst hw''
              go_wp2
              go_roundw
              case rel => exact ⟨m + 1, vs2, gs2, by have := hkh.out; omega, by have := hkh.out; simp only [Value.int.injEq, true_and]; omega, by rw [hn.out]; exact HB2.out.ext ((Ext.refl _).lift y), hEh2.out.lift y, Nat.lt_of_lt_of_le xb ((Ext.refl _).lift y).size, ((Ext.refl _).lift y).cell xh0.out, ((Ext.refl _).lift y).cell xh1.out, hob.out⟩
              case measure => simp [intOf]; omega
            · have hn := Lib.hid (prI_y (l := l) (d := d) (i := j) (m := m) (by rw [hPB.out, hp, hq]; rfl))
              go_wp2_with fail
              refine region_quiet (by kernel_rfl) (by kernel_rfl) ?_
              repeat (any_goals (first | go_big_quiet_step ((fail)) | quiet_step ((fail))))
              refine wpQuiet_nil ?_
              intro _ hw'
              obtain ⟨y, hw''⟩ := hw'
              subst hw''
              have B3 := Lib.hid (HB2.out.ext ((Ext.refl _).lift y))
              have E3 := Lib.hid (hEh2.out.lift y)
              have hbw : w.heap.size ≤ (lift wr y).heap.size := E3.out.size
              have xb1 := Nat.lt_of_lt_of_le xb ((Ext.refl wr).lift y).size
              have xe0 := Lib.hid (((Ext.refl wr).lift y).cell xh0.out)
              have xe1 := Lib.hid (((Ext.refl wr).lift y).cell xh1.out)
              clear HB2 hEh2 p0 p1 hb xb xd0 xd1 xh0 xh1
              generalize lift wr y = W1 at *
              have hEW : Hid (Ext W1 ((W1.alloc (.cells #[.int .i64 (j : Int), .int .i64 (k : Int)] 2)).alloc (.cells #[.slice (some ⟨W1.heap.size, 0, none⟩) 2 2] 25))) := ((Ext.refl _).alloc _).alloc _
              have hsz : ((W1.alloc (.cells #[.int .i64 (j : Int), .int .i64 (k : Int)] 2)).alloc (.cells #[.slice (some ⟨W1.heap.size, 0, none⟩) 2 2] 25)).heap.size = W1.heap.size + 2 := by rw [size_new, size_new]
              have hszh := Lib.hid hsz
              clear hsz
              have L3 := Lib.hid (B3.out.lst.ext hEW.out)
              have HR3 : Hid (RowsAt 1 cellV ((W1.alloc (.cells #[.int .i64 (j : Int), .int .i64 (k : Int)] 2)).alloc (.cells #[.slice (some ⟨W1.heap.size, 0, none⟩) 2 2] 25)) (some ⟨W1.heap.size + 1, 0, none⟩) [⟨some ⟨W1.heap.size, 0, none⟩, 2, 2⟩]) := by
                have h9 := rows_new (n := 1) (cell := cellV) (T := 25) (W1.alloc (.cells #[.int .i64 (j : Int), .int .i64 (k : Int)] 2)) #[.slice (some ⟨W1.heap.size, 0, none⟩) 2 2] ⟨some ⟨W1.heap.size, 0, none⟩, 2, 2⟩ (fun q hq => by have h8 : q < 1 := hq; obtain rfl : q = 0 := (by omega); rfl)
                rw [size_new] at h9
                exact h9
              have hB9 : Hid (∃ N, Blk ((W1.alloc (.cells #[.int .i64 (j : Int), .int .i64 (k : Int)] 2)).alloc (.cells #[.slice (some ⟨W1.heap.size, 0, none⟩) 2 2] 25)) W1.heap.size 2 N ∧ [(j : Int), (k : Int)].length ≤ N) := ⟨2, (Blk.new W1 #[.int .i64 (j : Int), .int .i64 (k : Int)] 2).ext ((Ext.refl _).alloc _), Nat.le_refl _⟩
              have hI9 : Hid (IntAt ((W1.alloc (.cells #[.int .i64 (j : Int), .int .i64 (k : Int)] 2)).alloc (.cells #[.slice (some ⟨W1.heap.size, 0, none⟩) 2 2] 25)) (some ⟨W1.heap.size, 0, none⟩) [(j : Int), (k : Int)]) := (intAt_new0 W1 _ _ _ (by intro q hq; simp at hq; rcases (show q = 0 ∨ q = 1 by omega) with rfl | rfl <;> rfl)).ext ((Ext.refl _).alloc _)
              have hvl : vs2.length ≤ 5000 := by
                have e1 := B3.out.len
                rw [List.length_append] at e1
                have e2 := prO_len l d j
                have e3 := prI_len l d j m
                have e4 : j * l.length ≤ 48 * 48 := Nat.mul_le_mul (by omega) hl48
                have := hkh.out
                omega
              go_wp2_with (at_builtin; refine wpList_pushAt elII oneSl rfl _ _ rfl w.heap.size _ vs2 (by rfl) L3.out _ 1 1 [⟨some ⟨W1.heap.size, 0, none⟩, 2, 2⟩] rfl (by rfl) HR3.out (by omega) (by omega) (by rw [hszh.out]; omega) ?_; intro v' w3 HL hg3 hat3)
              have B4 := Lib.hid (B3.out.push (x := [(j : Int), (k : Int)]) (cp := 2) hbw hEW.out (by rw [hszh.out]; omega) hB9.out hI9.out (Nat.le_refl _) HL hg3 hat3)
              have hblk := Lib.hid (L3.out.ge)
              have E4 : Hid (Ext w w3) := (E3.out.trans hEW.out).grown hg3 (fun q hq => hblk.out q hq)
              have xb2 : wo.heap.size < w3.heap.size := Nat.lt_of_lt_of_le xb1 (Nat.le_trans hEW.out.size hg3.size)
              have xf0 := Lib.hid (cell_grown (hEW.out.cell xe0.out) hg3 hob.out)
              have xf1 := Lib.hid (cell_grown (hEW.out.cell xe1.out) hg3 hob.out)
              have hob2 : Hid (v'.ownBlock ≠ some wo.heap.size) := by
                rcases hat3 with e | e
                · rw [e]; exact hob.out
                · rw [e, hszh.out]; intro e2; simp only [Option.some.injEq] at e2; omega
              clear HL hg3 hat3 B3 E3 xe0 xe1 L3 HR3 hB9 hI9 hEW
              go_wp2_with fail
              go_roundw
              case rel => exact ⟨m + 1, _, _, by have := hkh.out; omega, by have := hkh.out; simp only [Value.int.injEq, true_and]; omega, by rw [hn.out, ← hkh.out, ← List.append_assoc]; exact B4.out, E4.out, xb2, xf0.out, xf1.out, hob2.out⟩
              case measure => simp [intOf]; omega
        · have hke : k = l.length := by omega
          have hml : Hid (m = l.length - (j + 1)) := by show _ = _; have := hkh.out; omega
          have hdk : decide ((k : Int) < (l.length : Int)) = false := decide_eq_false (by omega)
          clear hke
          go_wp2_with fail
          go_roundw
          case rel => exact ⟨j + 1, vs2, gs2, by omega, by go_num, by show BII _ _ _ (prO l d j ++ prI l d j (l.length - (j + 1))) _ _; rw [← hml.out]; exact HB2.out, he2⟩
          case measure => simp [intOf]; omega
    · obtain rfl : j = l.length := by omega
      go_wp2_with fail
      go_ret2
      rw [hv.out.1, hv.out.2]
      exact ⟨_, vs, gs, rfl, HB.out, hEh.out⟩
end Go.Proofs.Ytndkcgiadpdcjaa

/- Chapter 28: WithinDays of the program. -/
import Derived.Test.YtndkcgiadpdcjaaCalmP
import Derived.Test.YtndkcgiadpdcjaaSameP
namespace Go.Proofs.Ytndkcgiadpdcjaa
open Go.RowKit
def wiV (l : List Incident) (d : Int) : Int × Int × Int := if incidentList l = true then (if inB d 1 1000 = true then (if l.length = 0 then (0, 0, 3) else ((withI l d l.length).1, (withI l d l.length).2, 0)) else (0, 0, 2)) else (0, 0, 1)
theorem incident_lenW {l : List Incident} (h : incidentList l = true) : l.length ≤ 48 := vAll_len_le (show vAll incidentB incB 48 l = true from h)
theorem withI_le (l : List Incident) (d : Int) (n : Nat) (hn : n ≤ l.length) : (withI l d n).1 ≤ l.length := by
  rcases withI_from l d n with h | ⟨b, hb, h1, -⟩
  · omega
  · rw [h1]; exact Nat.le_trans (cntG_le l d b _) (by omega)
theorem withI_at (l : List Incident) (d : Int) (n : Nat) : withI l d (n + 1) = if (withI l d n).1 < cntI l d n then (cntI l d n, (nth l n).day) else withI l d n := rfl
set_option maxRecDepth 100000 in
set_option maxHeartbeats 8000000 in
theorem WithinDays_any (w : World) (a : Option Addr) (cap : Nat) (l : List Incident) (H : IncidentAt w a l) (hsz : ∀ k, k < l.length → (nth l k).Small) (hn : l.length ≤ 1048576) (hcap : l.length ≤ cap) (d : Int) (_ : -9223372036854775808 ≤ d) (_ : d ≤ 9223372036854775807) :
    Calls Try.prog 24 #[.slice a l.length cap, .int .i64 d] w fun e w' => e = .returned (.tuple #[.int .i64 (wiV l d).1, .int .i64 (wiV l d).2.1, .int .i64 (wiV l d).2.2]) ∧ Ext w w' := by
  have HA := Lib.hid H
  have HV := Lib.hid fun (w' : World) (he : Ext w w') => ValidIncidents_any a cap l w' (H.ext he) hsz hn
  clear hsz
  unfold wiV
  cases h1 : incidentList l
  · rw [h1] at HV
    clear h1
    go_enter Try.func24, Try.ntmps24
    go_wp2_with (go_at_call 41; refine (HV.out _ (by repeat (first | exact Ext.refl _ | refine Ext.lift ?_ _ | refine Ext.alloc ?_ _))).mono ?_; rintro e w' ⟨rfl, y, rfl⟩)
    go_ret3
    exact ⟨rfl, (by repeat (first | exact Ext.refl _ | refine Ext.lift ?_ _ | refine Ext.alloc ?_ _))⟩
  rw [h1] at HV
  cases h2 : inB d 1 1000
  · clear h1
    go_enter Try.func24, Try.ntmps24
    go_wp2_with (first | (go_at_call 41; refine (HV.out _ (by repeat (first | exact Ext.refl _ | refine Ext.lift ?_ _ | refine Ext.alloc ?_ _))).mono ?_; rintro e w' ⟨rfl, y, rfl⟩) | (go_at_call 46; refine (daysOk_any _ _).mono ?_; rintro e w' ⟨rfl, rfl⟩; rw [h2]))
    go_ret3
    exact ⟨rfl, (by repeat (first | exact Ext.refl _ | refine Ext.lift ?_ _ | refine Ext.alloc ?_ _))⟩
  by_cases h3 : l.length = 0
  · rw [if_pos rfl, if_pos rfl, if_pos h3]
    have HV := HV.out
    rw [h3] at HV ⊢
    have HV := Lib.hid HV
    clear h1 h3 hcap hn
    go_enter Try.func24, Try.ntmps24
    go_wp2_with (first | (go_at_call 41; refine (HV.out _ (by repeat (first | exact Ext.refl _ | refine Ext.lift ?_ _ | refine Ext.alloc ?_ _))).mono ?_; rintro e w' ⟨rfl, y, rfl⟩) | (go_at_call 46; refine (daysOk_any _ _).mono ?_; rintro e w' ⟨rfl, rfl⟩; rw [h2]))
    go_ret3
    exact ⟨rfl, (by repeat (first | exact Ext.refl _ | refine Ext.lift ?_ _ | refine Ext.alloc ?_ _))⟩
  rw [if_pos rfl, if_pos rfl, if_neg h3]
  have h48 := incident_lenW h1
  have hbd := Lib.hid fun k (hk : k < l.length) => (incidentB_bd (vAll_one (show vAll incidentB incB 48 l = true from h1) k hk)).1
  obtain ⟨hd2, hd3⟩ := inB_iff.1 h2
  have hle := Lib.hid fun k (hk : k ≤ l.length) => withI_le l d k hk
  have hpos : 0 < l.length := by omega
  clear h1 h3
  go_enter Try.func24, Try.ntmps24
  go_wp2_with (first | (go_at_call 41; refine (HV.out _ (by repeat (first | exact Ext.refl _ | refine Ext.lift ?_ _ | refine Ext.alloc ?_ _))).mono ?_; rintro e w' ⟨rfl, y, rfl⟩) | (go_at_call 46; refine (daysOk_any _ _).mono ?_; rintro e w' ⟨rfl, rfl⟩; rw [h2]))
  clear HV h2
  have hE0 := Lib.hid ((Ext.refl w).lift y)
  go_loopw [7, 8, 28] (fun p q i wr => ∃ k : Nat, k ≤ l.length ∧ i = .int .i64 k ∧ p = .int .i64 (withI l d k).1 ∧ q = .int .i64 (withI l d k).2 ∧ Hid (Ext w wr)) (fun _ _ i _ => l.length - (intOf i).toNat)
  case atStart => exact ⟨0, Nat.zero_le _, rfl, rfl, rfl, hE0.out⟩
  case round =>
    obtain ⟨k, hk, rfl, rfl, rfl, hE⟩ := hrel
    by_cases hlt : k < l.length
    · obtain ⟨b, off, rfl⟩ := HA.out.base hlt
      obtain ⟨hb, c0, c1, c2, c3, c4, c5⟩ := Incident.at (HA.out.ext hE.out) k hlt
      obtain ⟨e0, e1⟩ := hbd.out k hlt
      have hwle := hle.out k hk
      have hnc : cap - k + k = cap := by omega
      have hck : ¬ cap = k := by omega
      have hwd := Lib.hid (withI_at l d k)
      generalize hkday : (nth l k).day = kd at *
      have hkd := Lib.hid hkday
      clear hkday hle hE0
      generalize hpw : (withI l d k).1 = pw at *
      generalize hpq : (withI l d k).2 = pq at *
      have hpwh := Lib.hid hpw
      have hpqh := Lib.hid hpq
      clear hpw hpq
      go_wp2_with fail
      have hEa := Lib.hid ((Ext.refl wr).alloc (.cells #[.int .i64 kd, .string (nth l k).place, .string (nth l k).cause, .int .i64 (nth l k).level, .int .i64 (nth l k).caught, .int .i64 (nth l k).buried] 44))
      have hbox : Hid ((wr.alloc (.cells #[.int .i64 kd, .string (nth l k).place, .string (nth l k).cause, .int .i64 (nth l k).level, .int .i64 (nth l k).caught, .int .i64 (nth l k).buried] 44)).cell? ⟨wr.heap.size, 0, none⟩ = some (.int .i64 kd)) := by show _ = _; rw [cell_new]; rfl
      have hRd := Lib.hid fun (W : World) (he : Ext w W) => RowsAt.drop (n := 6) (HA.out.ext he) k
      have hcl := Lib.hid (cntG_le l d k)
      have hnd : Hid (∀ j, nth (l.drop k) j = nth l (k + j)) := fun j => by unfold nth; simp
      have hld : Hid ((l.drop k).length = l.length - k) := by show _ = _; rw [List.length_drop]
      have hci : Hid (cntI l d k = cntG l d k (l.length - k)) := rfl
      have hnk : l.length - k ≤ 48 := by omega
      have hEw := Lib.hid (hE.out.trans hEa.out)
      have hz := hEa.out.size
      rw [size_new] at hz
      have hz2 : wr.heap.size < (wr.alloc (.cells #[.int .i64 kd, .string (nth l k).place, .string (nth l k).cause, .int .i64 (nth l k).level, .int .i64 (nth l k).caught, .int .i64 (nth l k).buried] 44)).heap.size := by rw [size_new]; omega
      clear c0 c1 c2 c3 c4 c5 hEa hnc hck hz
      generalize hnn : l.length - k = n at *
      have hkn := Lib.hid hnn
      generalize wr.alloc (.cells #[.int .i64 kd, .string (nth l k).place, .string (nth l k).cause, .int .i64 (nth l k).level, .int .i64 (nth l k).caught, .int .i64 (nth l k).buried] 44) = wa at *
      clear hnn
      go_loopw [11, 37] (fun m i wq => ∃ j : Nat, j ≤ n ∧ i = .int .i64 j ∧ m = .int .i64 (cntG l d k j) ∧ Hid (Ext wa wq)) (fun _ i _ => n - (intOf i).toNat)
      case atStart => exact ⟨0, Nat.zero_le _, rfl, rfl, Ext.refl _⟩
      case round =>
        obtain ⟨j, hj, rfl, rfl, hEq⟩ := hrel
        by_cases hjt : j < n
        · obtain ⟨hb2, d0, d1, d2, d3, d4, d5⟩ := Incident.at (hRd.out _ (hEw.out.trans hEq.out)) j (by rw [hld.out]; exact hjt)
          rw [hnd.out] at d0 d1 d2 d3 d4 d5
          have hbx := hEq.out.cell hbox.out
          have hbz := Nat.lt_of_lt_of_le hz2 hEq.out.size
          obtain ⟨f0, f1⟩ := hbd.out (k + j) (by have := hkn.out; omega)
          have hcj := hcl.out j
          have hcs : Hid (cntG l d k (j + 1) = cntG l d k j + (if (nth l (k + j)).day < kd + d then 1 else 0)) := by rw [← hkd.out]; rfl
          have hEq1 := Lib.hid fun (o : Obj) => hEq.out.alloc o
          clear hEq hbox hz2 hcl hRd hnd
          generalize cntG l d k j = cj at *
          by_cases hday : (nth l (k + j)).day < kd + d
          · have hcs2 : Hid (cntG l d k (j + 1) = cj + 1) := by show _ = _; rw [hcs.out, if_pos hday]
            clear hcs
            generalize (nth l (k + j)).day = dj at *
            go_wp2_with fail
            go_roundw
            case rel => exact ⟨j + 1, by omega, by go_num, by rw [hcs2.out]; go_num, hEq1.out _⟩
            case measure => simp [intOf]; omega
          · have hcs2 : Hid (cntG l d k (j + 1) = cj) := by show _ = _; rw [hcs.out, if_neg hday]; rfl
            clear hcs
            generalize (nth l (k + j)).day = dj at *
            go_wp2_with fail
            go_roundw
            case rel => exact ⟨j + 1, by omega, by go_num, by rw [hcs2.out], hEq1.out _⟩
            case measure => simp [intOf]; omega
        · obtain rfl : j = n := by omega
          have hbx := hEq.out.cell hbox.out
          have hbz := Nat.lt_of_lt_of_le hz2 hEq.out.size
          have hE2 := Lib.hid (hEw.out.trans hEq.out)
          have hcj := hcl.out j
          rw [hci.out] at hwd
          clear hEq hbox hz2 hcl hRd hnd hEw hci
          generalize cntG l d k j = cj at *
          by_cases hgt : pw < cj
          · have hp1 : Hid ((withI l d (k + 1)).1 = cj ∧ (withI l d (k + 1)).2 = kd) := by
              show _ ∧ _
              rw [hwd.out, if_pos hgt]; exact ⟨rfl, rfl⟩
            clear hwd
            go_wp2_with fail
            refine region_quiet (by kernel_rfl) (by kernel_rfl) ?_
            repeat (any_goals (first | go_big_quiet_step (fail) | quiet_step (fail)))
            refine wpQuiet_nil ?_
            intro _ hw'
            obtain ⟨y, hw''⟩ := hw'
            subst hw''
            go_wp2_with fail
            go_roundw
            case rel => exact ⟨k + 1, by omega, by go_num, by rw [hp1.out.1], by rw [hp1.out.2], hE2.out.lift _⟩
            case measure => simp [intOf]; omega
          · have hp1 : Hid ((withI l d (k + 1)).1 = pw ∧ (withI l d (k + 1)).2 = pq) := by
              show _ ∧ _
              rw [hwd.out, if_neg hgt]; exact ⟨hpwh.out, hpqh.out⟩
            clear hwd
            go_wp2_with fail
            go_roundw
            case rel => exact ⟨k + 1, by omega, by go_num, by rw [hp1.out.1], by rw [hp1.out.2], hE2.out⟩
            case measure => simp [intOf]; omega
    · obtain rfl : k = l.length := by omega
      go_wp2_with fail
      go_ret3
      exact ⟨rfl, hE.out⟩
end Go.Proofs.Ytndkcgiadpdcjaa

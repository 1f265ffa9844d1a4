/- Chapter 28: CalmDays of the program, the walk. -/
import Derived.Test.YtndkcgiadpdcjaaCalmE
namespace Go.Proofs.Ytndkcgiadpdcjaa
open Go.RowKit
theorem objt_new (W : World) (x : Int) {n : Nat} (hn : n = W.heap.size) : Objt (W.alloc (.cells #[.int .i64 x] 2)) n 2 1 (fun _ => .int .i64 x) := by
  subst hn
  refine ⟨Blk.new W #[.int .i64 x] 2, fun j hj => ?_⟩
  obtain rfl : j = 0 := by omega
  rw [cell_new]; rfl
theorem CD.new (w0 L : World) (he : Ext w0 L) (fr : Int) : CD w0 (((L.alloc (.cells #[.int .i64 0] 2)).alloc (.cells #[.int .i64 0] 2)).alloc (.cells #[.int .i64 fr] 2)) L.heap.size 0 0 fr :=
  ⟨((he.alloc _).alloc _).alloc _, he.size, (objt_new L 0 rfl).ext (((Ext.refl _).alloc _).alloc _), (objt_new _ 0 (by rw [size_new])).ext ((Ext.refl _).alloc _), objt_new _ fr (by rw [size_new, size_new])⟩
set_option maxRecDepth 100000 in
set_option maxHeartbeats 8000000 in
theorem CalmDays_any (w : World) (a : Option Addr) (cap : Nat) (l : List Incident) (H : IncidentAt w a l) (hsz : ∀ k, k < l.length → (nth l k).Small) (hn : l.length ≤ 1048576) (fr un : Int) :
    Calls Try.prog 22 #[.slice a l.length cap, .int .i64 fr, .int .i64 un] w (CalmOut l fr un w) := by
  have HA := Lib.hid H
  have HV := Lib.hid fun (w' : World) (he : Ext w w') => ValidIncidents_any a cap l w' (H.ext he) hsz hn
  clear hsz
  unfold CalmOut
  cases h1 : incidentList l
  · rw [h1] at HV
    clear h1
    go_enter Try.func22, Try.ntmps22
    go_wp2_with (go_at_call 41; refine (HV.out _ (by repeat (first | exact Ext.refl _ | refine Ext.lift ?_ _ | refine Ext.alloc ?_ _))).mono ?_; rintro e w' ⟨rfl, y, rfl⟩)
    go_ret3
    exact ⟨0, 0, 1, rfl, fun h => absurd h (by decide), (by repeat (first | exact Ext.refl _ | refine Ext.lift ?_ _ | refine Ext.alloc ?_ _))⟩
  rw [h1] at HV
  cases h2 : inB fr 0 36524
  · clear h1
    go_enter Try.func22, Try.ntmps22
    go_wp2_with (first | (go_at_call 41; refine (HV.out _ (by repeat (first | exact Ext.refl _ | refine Ext.lift ?_ _ | refine Ext.alloc ?_ _))).mono ?_; rintro e w' ⟨rfl, y, rfl⟩) | (go_at_call 42; refine (dayValid_any _ _).mono ?_; rintro e w' ⟨rfl, rfl⟩; rw [h2]))
    go_ret3
    exact ⟨0, 0, 2, rfl, fun h => absurd h (by decide), (by repeat (first | exact Ext.refl _ | refine Ext.lift ?_ _ | refine Ext.alloc ?_ _))⟩
  cases h3 : inB un 0 36524
  · clear h1
    go_enter Try.func22, Try.ntmps22
    go_wp2_with (first | (go_at_call 41; refine (HV.out _ (by repeat (first | exact Ext.refl _ | refine Ext.lift ?_ _ | refine Ext.alloc ?_ _))).mono ?_; rintro e w' ⟨rfl, y, rfl⟩) | (go_at_call 42; refine (dayValid_any _ _).mono ?_; rintro e w' ⟨rfl, rfl⟩; first | rw [h2] | rw [h3]))
    go_ret3
    exact ⟨0, 0, 2, rfl, fun h => absurd h (by decide), (by repeat (first | exact Ext.refl _ | refine Ext.lift ?_ _ | refine Ext.alloc ?_ _))⟩
  by_cases h4 : un < fr
  · clear h1
    go_enter Try.func22, Try.ntmps22
    go_wp2_with (first | (go_at_call 41; refine (HV.out _ (by repeat (first | exact Ext.refl _ | refine Ext.lift ?_ _ | refine Ext.alloc ?_ _))).mono ?_; rintro e w' ⟨rfl, y, rfl⟩) | (go_at_call 42; refine (dayValid_any _ _).mono ?_; rintro e w' ⟨rfl, rfl⟩; first | rw [h2] | rw [h3]))
    go_ret3
    exact ⟨0, 0, 2, rfl, fun h => absurd h (by decide), (by repeat (first | exact Ext.refl _ | refine Ext.lift ?_ _ | refine Ext.alloc ?_ _))⟩
  obtain ⟨r0, r1⟩ := inB_iff.1 h2
  obtain ⟨r2, r3⟩ := inB_iff.1 h3
  have h48 := incident_lenW h1
  have hu := Lib.hid (daysUp h1)
  have hbd := Lib.hid fun k (hk : k < l.length) => (incidentB_bd (vAll_one (show vAll incidentB incB 48 l = true from h1) k hk)).1
  clear h1
  go_enter Try.func22, Try.ntmps22
  go_wp2_with (first | (go_at_call 41; refine (HV.out _ (by repeat (first | exact Ext.refl _ | refine Ext.lift ?_ _ | refine Ext.alloc ?_ _))).mono ?_; rintro e w' ⟨rfl, y, rfl⟩) | (go_at_call 42; refine (dayValid_any _ _).mono ?_; rintro e w' ⟨rfl, rfl⟩; first | rw [h2] | rw [h3]))
  clear h2 h3 HV
  have hC0 := CD.new w (lift w y) ((Ext.refl w).lift y) fr
  rw [show (lift w y).heap.size = w.heap.size + y.blocks.size by simp] at hC0
  have hC0 := Lib.hid hC0
  generalize w.heap.size + y.blocks.size = g at *
  have HC := Lib.hid fun (W : World) (b m s e : Int) (h : CD w W g b m s) (q0 : 0 ≤ s) (q1 : s ≤ 100000) (q2 : 0 ≤ e) (q3 : e ≤ 100000) => (show Calls Try.prog 43 #[.int .i64 e, .pointer (some ⟨g + 1 + 1, 0, none⟩), .pointer (some ⟨g + 1, 0, none⟩), .pointer (some ⟨g, 0, none⟩)] W _ from calmClo_any w W g b m s e h q0 q1 q2 q3)
  go_loopw [37] (fun i wr => ∃ (k : Nat) (b m s : Int), k ≤ l.length ∧ i = .int .i64 k ∧ Hid (CD w wr g b m s) ∧ Hid (CalmInv l fr un k b m s)) (fun i _ => l.length - (intOf i).toNat)
  case atStart => exact ⟨0, 0, 0, fr, Nat.zero_le _, rfl, hC0.out, ⟨Int.le_refl _, by omega, Int.le_refl _, fun j hj => absurd hj (Nat.not_lt_zero j), fun h => absurd h (by decide)⟩⟩
  case round =>
    obtain ⟨k, b, m, s, hk, rfl, hC, hI⟩ := hrel
    have s0 := hI.out.s0
    have s1 := hI.out.s1
    have z2 : wr.cell? ⟨g + 1 + 1, 0, none⟩ = some (.int .i64 s) := hC.out.o2.cell 0 (by decide)
    have l2 : g + 1 + 1 < wr.heap.size := hC.out.o2.blk.lt
    by_cases hlt : k < l.length
    · obtain ⟨gb, off, rfl⟩ := HA.out.base hlt
      obtain ⟨hb, c0, c1, c2, c3, c4, c5⟩ := Incident.at (HA.out.ext hC.out.ext) k hlt
      obtain ⟨e0, e1⟩ := hbd.out k hlt
      have hskip := Lib.hid fun hd => CalmInv.skip hI.out hd
      have hstep := Lib.hid fun b' m' h1 h2 hr => CalmInv.step (b' := b') (m' := m') hI.out hu.out hlt h1 h2 hr
      have HQ := Lib.hid fun (W : World) (he : Ext wr W) => HC.out W b m s (nth l k).day (hC.out.grow he) (by omega) (by omega) (by omega) (by omega)
      have hCa := Lib.hid fun (o : Obj) => hC.out.grow ((Ext.refl wr).alloc o)
      have hEa := Lib.hid fun (o : Obj) => (Ext.refl wr).alloc o
      clear hC0 hI HC hC
      generalize (nth l k).day = kd at *
      by_cases hin : s ≤ kd ∧ kd ≤ un
      · obtain ⟨i0, i1⟩ := hin
        have hin2 : Hid (inB kd s un = true) := inB_iff.2 ⟨i0, i1⟩
        have hst := Lib.hid fun b' m' hr => hstep.out b' m' (by omega) i1 hr
        clear hskip hstep hCa
        go_wp2_with (go_at_call 44; refine (within_any _ _ _ _).mono ?_; rintro e w' ⟨rfl, rfl⟩; rw [hin2.out])
        refine (HQ.out _ (hEa.out _)).mono ?_
        rintro e w2 ⟨rfl, b', m', hC2, hr⟩
        have C2 := Lib.hid hC2
        have I2 := Lib.hid (hst.out b' m' hr)
        clear hC2 hr
        go_wp2_with fail
        go_roundw
        case rel => exact ⟨k + 1, b', m', kd + 1, by omega, by go_num, C2.out, I2.out⟩
        case measure => simp [intOf]; omega
      · have hsk := Lib.hid (hskip.out hin)
        have hin2 : Hid (inB kd s un = false) := by
          show _ = _
          cases h : inB kd s un
          · rfl
          · exact absurd (inB_iff.1 h) hin
        clear hskip hstep HQ hin
        go_wp2_with (go_at_call 44; refine (within_any _ _ _ _).mono ?_; rintro e w' ⟨rfl, rfl⟩; rw [hin2.out])
        go_roundw
        case rel => exact ⟨k + 1, b, m, s, by omega, by go_num, hCa.out _, hsk.out⟩
        case measure => simp [intOf]; omega
    · obtain rfl : k = l.length := by omega
      have hlast := Lib.hid fun b' m' hr hm => CalmInv.last (b' := b') (m' := m') hI.out hr hm
      have HQ := Lib.hid (HC.out wr b m s (un + 1) hC.out (by omega) (by omega) (by omega) (by omega))
      clear HC hC0 hI
      go_wp2_with fail
      refine HQ.out.mono ?_
      rintro e w3 ⟨rfl, b', m', hC3, hr⟩
      have C3 := Lib.hid hC3
      have hl3 := Lib.hid (hlast.out b' m' hr)
      have y0 := hC3.o0.cell 0 (by decide)
      have y1 := hC3.o1.cell 0 (by decide)
      have v0 := hC3.o0.blk.lt
      have v1 := hC3.o1.blk.lt
      clear hC3 hr hlast HQ hC z2 l2
      by_cases hm : m' = 0
      · subst hm
        clear hl3
        go_wp2_with fail
        go_ret3
        exact ⟨0, 0, 3, rfl, fun h => absurd h (by decide), C3.out.ext⟩
      · go_wp2_with fail
        refine region_quiet (by kernel_rfl) (by kernel_rfl) ?_
        repeat (any_goals (first | go_big_quiet_step (fail) | quiet_step (fail)))
        refine wpQuiet_nil ?_
        intro _ hw'
        obtain ⟨y, hw''⟩ := hw'
        subst hw''
        go_wp2_with fail
        go_ret3
        exact ⟨b', m', 0, rfl, fun _ => hl3.out hm, C3.out.ext.lift _⟩
end Go.Proofs.Ytndkcgiadpdcjaa

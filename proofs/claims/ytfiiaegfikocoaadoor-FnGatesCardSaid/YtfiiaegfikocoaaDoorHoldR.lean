/- A gate through some hours: the walks of the program's and the reference's functions. -/
import Derived.Test.YtfiiaegfikocoaaDoorHoldP
namespace Go.Proofs.YtfiiaegfikocoaaDoor
open Go.RowKit
set_option maxRecDepth 100000 in
set_option maxHeartbeats 8000000 in
theorem Gate_run (x : Gate) (a : Option Addr) (cap : Nat) (hz : List Int) (w : World) (hx : gateB x = true) (H : IntAt w a hz) (hn : hz.length ≤ 1048576) :
    Calls Tryd.prog 35 #[.agg #[.string x.id, .int .i64 x.shut, .int .i64 x.opn, .int .i64 x.hold, .bool x.shuts, .int .i64 x.calm], .slice a hz.length cap] w fun e w' => ∃ g, e = .returned (.slice (some ⟨g, 0, none⟩) hz.length hz.length) ∧ BoolAt w' (some ⟨g, 0, none⟩) (bools x hz hz.length) ∧ Ext w w' := by
  have HI := Lib.hid H
  have HX := Lib.hid fun k => gAt_ok hx hz k
  clear H hx
  obtain ⟨w0, hw0⟩ : ∃ w0, w0 = w.alloc (.cells #[.string x.id, .int .i64 x.shut, .int .i64 x.opn, .int .i64 x.hold, .bool x.shuts, .int .i64 x.calm] 31) := ⟨_, rfl⟩
  obtain ⟨bx, hbx⟩ : ∃ bx, bx = w.heap.size := ⟨_, rfl⟩
  have hE0 : Ext w w0 := by rw [hw0]; exact (Ext.refl w).alloc _
  have hG0 : Gbox w0 bx x := by rw [hw0, hbx]; exact Gbox.new w x
  have hs0 : w0.heap.size = bx + 1 := by rw [hw0, size_new, hbx]
  have hmk := run_make_blk (P := Tryd.prog) (t := 38) Tryd.underlying38 (by kernel_rfl : (Tryd.prog.info? 4).map (fun i => (i.zero.map Value.cells, i.size, i.bytes)) = some (some #[.bool false], 1, 1)) .i64 .i64 hz.length (by omega) (by omega) w0
  rw [Nat.mul_one, hs0] at hmk
  have hB := Blk.new w0 (madeCells #[.bool false] (hz.length * 1)) 4
  rw [size_madeCells, Nat.mul_one, hs0] at hB
  have hE1 := (Ext.refl w0).alloc (.cells (madeCells #[.bool false] hz.length) 4)
  obtain ⟨w1, hw1⟩ : ∃ w1, w1 = w0.alloc (.cells (madeCells #[.bool false] hz.length) 4) := ⟨_, rfl⟩
  rw [← hw1] at hB hE1 hmk
  have hG1 := Lib.hid (hG0.ext hE1)
  have hE2 := Lib.hid (hE0.trans hE1)
  have hB := Lib.hid hB
  have hbw : w.heap.size ≤ bx := by omega
  clear hE1 hG0 hE0 hs0 hw1
  go_enter Tryd.func35, Tryd.ntmps35
  go_wp2_with fail
  rw [← hw0, ← hbx, hmk]
  clear hw0 hbx hmk
  go_wp2_with fail
  go_loopw [13] (fun i wr => ∃ k : Nat, k ≤ hz.length ∧ i = .int .i64 k ∧ Hid (Gbox wr bx (gAt x hz k)) ∧ Hid (Blk wr (bx + 1) 4 hz.length) ∧ Hid (∀ j, j < k → wr.cell? ⟨bx + 1, j, none⟩ = some (.bool (gAt x hz (j + 1)).shuts)) ∧ Ext w wr) (fun i _ => hz.length - (intOf i).toNat)
  case atStart => exact ⟨0, Nat.zero_le _, rfl, hG1.out, hB.out, upto_zero, hE2.out⟩
  case round =>
    clear hG1 hE2 hB
    obtain ⟨k, hk, rfl, hG, hB, hall, he⟩ := hrel
    by_cases hlt : k < hz.length
    · obtain ⟨b, off, rfl⟩ := HI.out.base hlt
      obtain ⟨hb, d0⟩ := IntAt.at (HI.out.ext he) k hlt
      obtain ⟨y, hy⟩ : ∃ y, y = gAt x hz k := ⟨_, rfl⟩
      have hyok : gateB y = true := by rw [hy]; exact HX.out k
      have hnx : Hid (gAt x hz (k + 1) = stepG y (nth hz k)) := by show _ = _; rw [hy]; rfl
      rw [← hy] at hG
      have hE := Lib.hid he
      have hst := Lib.hid (Gate_step y (nth hz k) wr hyok)
      clear hy he
      obtain ⟨gl, g0, g1, g2, g3, g4, g5⟩ := hG.out.all
      have k0 := hG.out.blk.frozen 0
      have k1 := hG.out.blk.frozen 1
      have k2 := hG.out.blk.frozen 2
      have k3 := hG.out.blk.frozen 3
      have k4 := hG.out.blk.frozen 4
      have k5 := hG.out.blk.frozen 5
      go_wp2_with fail
      refine hst.out.mono ?_
      rintro e w' ⟨rfl, q, rfl⟩
      rw [← hnx.out]
      clear hst hyok
      obtain ⟨W, hW⟩ : ∃ W, W = lift wr q := ⟨_, rfl⟩
      have hEW : Hid (Ext w W) := by show Ext w W; rw [hW]; exact hE.out.lift _
      have hGW : Hid (Gbox W bx y) := by show Gbox W bx y; rw [hW]; exact hG.out.ext ((Ext.refl _).lift _)
      have hBW : Hid (Blk W (bx + 1) 4 hz.length) := by show Blk _ _ _ _; rw [hW]; exact hB.out.ext ((Ext.refl _).lift _)
      have haW : Hid (∀ j, j < k → W.cell? ⟨bx + 1, j, none⟩ = some (.bool (gAt x hz (j + 1)).shuts)) := fun j hj => by rw [hW]; exact ((Ext.refl _).lift _).cell (hall.out j hj)
      rw [← hW]
      clear hW hG hB hall g0 g1 g2 g3 g4 g5 k0 k1 k2 k3 k4 k5 gl hE
      obtain ⟨z, hz1⟩ : ∃ z, z = gAt x hz (k + 1) := ⟨_, rfl⟩
      rw [← hz1]
      replace hz1 := Lib.hid hz1
      obtain ⟨gl, g0, g1, g2, g3, g4, g5⟩ := hGW.out.all
      have k0 := hGW.out.blk.frozen 0
      have k1 := hGW.out.blk.frozen 1
      have k2 := hGW.out.blk.frozen 2
      have k3 := hGW.out.blk.frozen 3
      have k4 := hGW.out.blk.frozen 4
      have k5 := hGW.out.blk.frozen 5
      have hP := Gbox.put hGW.out.blk z
      have hBP := hBW.out.setCells bx (gvs z) 0
      have hal : Hid (∀ j, j < k → (W.setCells bx 0 (gvs z)).cell? ⟨bx + 1, j, none⟩ = some (.bool (gAt x hz (j + 1)).shuts)) := fun j hj => by
        rw [World.cell?_setCells_out bx (gvs z) 0 W ⟨bx + 1, j, none⟩ (fun h _ => absurd h (by show ¬ bx + 1 = bx; omega))]; exact haW.out j hj
      have hEP := Lib.hid (ext_setCells (g := bx) hbw (gvs z) 0 W hEW.out)
      have hFO := fill_one (c := fun j => Value.bool (gAt x hz (j + 1)).shuts) (v := .bool z.shuts) hBP hlt hal.out (by rw [hz1.out])
      have hF2 := Lib.hid hFO.1
      have hF3 := Lib.hid hFO.2
      have hF1 := Lib.hid (hP.beside (g := bx + 1) (o := k) (by omega) (.bool z.shuts))
      rw [hz1.out] at hF1
      have hF4 := Lib.hid (hEP.out.setCell (p := ⟨bx + 1, k, none⟩) (by show w.heap.size ≤ bx + 1; omega) (.bool z.shuts))
      have sl := hBW.out.lt
      have sf := hBW.out.frozen k
      obtain ⟨su, so⟩ := hBW.out.cell hlt
      rw [← hz1.out] at hF1
      clear hP hBP hal hEP hFO hGW hBW haW hEW
      go_wp2_with fail
      go_roundw
      case rel => exact ⟨k + 1, by omega, by go_num, by rw [← hz1.out]; exact hF1.out, hF2.out, hF3.out, hF4.out⟩
      case measure => simp [intOf]; omega
    · obtain rfl : k = hz.length := by omega
      have hR : Hid (BoolAt wr (some ⟨bx + 1, 0, none⟩) (bools x hz hz.length)) := fun j hj => by
        rw [bools_len] at hj
        refine ⟨bx + 1, 0, rfl, hB.out.lt, fun i hi => ?_⟩
        obtain rfl : i = 0 := by omega
        rw [Nat.mul_one, Nat.zero_add, Nat.add_zero, bools_at x hz hj]
        exact hall.out j hj
      clear hG hB hall
      go_wp2_with fail
      go_ret
      exact ⟨bx + 1, rfl, hR.out, he⟩
set_option maxRecDepth 100000 in
set_option maxHeartbeats 8000000 in
theorem Gate_shutHours (x : Gate) (a : Option Addr) (cap : Nat) (hz : List Int) (w : World) (hx : gateB x = true) (H : IntAt w a hz) (hn : hz.length ≤ 1048576) :
    Gives Tryd.prog 36 #[.agg #[.string x.id, .int .i64 x.shut, .int .i64 x.opn, .int .i64 x.hold, .bool x.shuts, .int .i64 x.calm], .slice a hz.length cap] w (.tuple #[.int .i64 (hoursG x hz hz.length), .int .i64 (timesG x hz hz.length)]) := by
  unfold Gives
  have HR := Lib.hid fun (W : World) (he : Ext w W) => Gate_run x a cap hz W hx (RowsAt.ext H he) hn
  clear H hx
  go_enter Tryd.func36, Tryd.ntmps36
  go_wp2_with fail
  refine region_quiet (by kernel_rfl) (by kernel_rfl) ?_
  repeat (any_goals (first | go_big_quiet_step ((fail)) | quiet_step ((fail))))
  refine wpQuiet_nil ?_
  intro _ hw'
  obtain ⟨y, hw''⟩ := hw'
  subst hw''
  go_wp2_with fail
  refine (HR.out _ (by repeat (first | exact Ext.refl _ | refine Ext.lift ?_ _ | refine Ext.alloc ?_ _))).mono ?_
  rintro e W ⟨g, rfl, hB, hE⟩
  have hE2 : Hid (Ext w W) := Ext.trans (by repeat (first | exact Ext.refl _ | refine Ext.lift ?_ _ | refine Ext.alloc ?_ _)) hE
  have hB := Lib.hid hB
  clear HR hE
  go_wp2_with fail
  go_loopw [6, 7, 8, 17] (fun h t b i wr => ∃ k : Nat, k ≤ hz.length ∧ i = .int .i64 k ∧ h = .int .i64 (hoursG x hz k) ∧ t = .int .i64 (timesG x hz k) ∧ b = .bool (gAt x hz k).shuts ∧ wr = W) (fun _ _ _ i _ => hz.length - (intOf i).toNat)
  case atStart => exact ⟨0, Nat.zero_le _, rfl, rfl, rfl, rfl, rfl⟩
  case round =>
    obtain ⟨k, hk, rfl, rfl, rfl, rfl, rfl⟩ := hrel
    obtain ⟨b1, b2⟩ := hours_bd x hz k
    obtain ⟨b3, b4⟩ := times_bd x hz k
    by_cases hlt : k < hz.length
    · obtain ⟨hbl, c0⟩ := BoolAt.at hB.out k (by rw [bools_len]; exact hlt)
      rw [bools_at x hz hlt, Nat.zero_add] at c0
      have n1 : Hid (hoursG x hz (k + 1) = hoursG x hz k + if (gAt x hz (k + 1)).shuts = true then 1 else 0) := rfl
      have n2 : Hid (timesG x hz (k + 1) = timesG x hz k + if (gAt x hz (k + 1)).shuts = true ∧ (gAt x hz k).shuts = false then 1 else 0) := rfl
      cases h1 : (gAt x hz (k + 1)).shuts <;> cases h2 : (gAt x hz k).shuts
      all_goals
        rw [h1] at c0 n1 n2
        rw [h2] at n2
        have h1h := Lib.hid h1
        clear h1 h2
        go_wp2_with fail
        go_roundw
        case rel => exact ⟨k + 1, by omega, by go_num, by rw [n1.out]; simp, by rw [n2.out]; simp, by rw [h1h.out], by first | rfl | trivial⟩
        case measure => simp [intOf]; omega
    · obtain rfl : k = hz.length := by omega
      go_wp2_with fail
      go_ret2
      exact ⟨rfl, hE2.out⟩
set_option maxRecDepth 100000 in
set_option maxHeartbeats 4000000 in
theorem Gate_code (x : Gate) (a : Option Addr) (cap : Nat) (hz : List Int) (t : Int) (w : World) (hx : gateB x = true) (H : IntAt w a hz) (hn : hz.length ≤ 64) (hall : allIn hz 0 1000 = true) (t0 : 0 ≤ t) (t1 : t ≤ 64) :
    Gives Tryd.prog 34 #[.agg #[.string x.id, .int .i64 x.shut, .int .i64 x.opn, .int .i64 x.hold, .bool x.shuts, .int .i64 x.calm], .slice a hz.length cap, .int .i64 t] w (.int .i64 0) := by
  unfold Gives
  have hid := (gateB_bd hx).1
  have HV := Lib.hid fun (W : World) => Gate_valid x W (by omega)
  rw [hx] at HV
  have HA := Lib.hid fun (W : World) (he : Ext w W) => allWithin_any a cap hz 0 1000 W (RowsAt.ext H he) (by omega)
  rw [hall] at HA
  have hin : inB t 0 64 = true := inB_iff.2 ⟨t0, t1⟩
  clear H hx hall
  go_enter Tryd.func34, Tryd.ntmps34
  go_wp2_with (first | (go_at_call 31; refine (HV.out _).mono ?_; rintro e w' ⟨rfl, y, rfl⟩) | (go_at_call 56; refine (HA.out _ (by repeat (first | exact Ext.refl _ | refine Ext.lift ?_ _ | refine Ext.alloc ?_ _))).mono ?_; rintro e w' ⟨rfl, y2, rfl⟩) | (go_at_call 53; refine (within_any _ _ _ _).mono ?_; rintro e w' ⟨rfl, rfl⟩; rw [hin]))
  go_ret
  exact ⟨rfl, (by repeat (first | exact Ext.refl _ | refine Ext.lift ?_ _ | refine Ext.alloc ?_ _))⟩
end Go.Proofs.YtfiiaegfikocoaaDoor

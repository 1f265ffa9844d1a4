/- A gate through some hours: the walks of the program's and the reference's functions. -/
import Derived.Test.YtahfjoadpipghaaHoldP
namespace Go.Proofs.Ytahfjoadpipghaa
open Go.RowKit
set_option maxRecDepth 100000 in
set_option maxHeartbeats 8000000 in
theorem Gate_run (x : Gate) (a : Option Addr) (cap : Nat) (hz : List Int) (w : World) (hx : gateB x = true) (H : IntAt w a hz) (hn : hz.length ≤ 1048576) :
    Calls Try.prog 96 #[.agg #[.string x.id, .int .i64 x.shut, .int .i64 x.opn, .int .i64 x.hold, .bool x.shuts, .int .i64 x.calm], .slice a hz.length cap] w fun e w' => ∃ g, e = .returned (.slice (some ⟨g, 0, none⟩) hz.length hz.length) ∧ BoolAt w' (some ⟨g, 0, none⟩) (bools x hz hz.length) ∧ Ext w w' := by
  have HI := Lib.hid H
  have HX := Lib.hid fun k => gAt_ok hx hz k
  clear H hx
  obtain ⟨w0, hw0⟩ : ∃ w0, w0 = w.alloc (.cells #[.string x.id, .int .i64 x.shut, .int .i64 x.opn, .int .i64 x.hold, .bool x.shuts, .int .i64 x.calm] 54) := ⟨_, rfl⟩
  obtain ⟨bx, hbx⟩ : ∃ bx, bx = w.heap.size := ⟨_, rfl⟩
  have hE0 : Ext w w0 := by rw [hw0]; exact (Ext.refl w).alloc _
  have hG0 : Gbox w0 bx x := by rw [hw0, hbx]; exact Gbox.new w x
  have hs0 : w0.heap.size = bx + 1 := by rw [hw0, size_new, hbx]
  have hmk := run_make_blk (P := Try.prog) (t := 117) Try.underlying117 (by kernel_rfl : (Try.prog.info? 4).map (fun i => (i.zero.map Value.cells, i.size, i.bytes)) = some (some #[.bool false], 1, 1)) .i64 .i64 hz.length (by omega) (by omega) w0
  rw [Nat.mul_one, hs0] at hmk
  have hB := Blk.new w0 (madeCells #[.bool false] (hz.length * 1)) 4
  rw [size_madeCells, Nat.mul_one, hs0] at hB
  have hE1 := (Ext.refl w0).alloc (.cells (madeCells #[.bool false] hz.length) 4)
  obtain ⟨w1, hw1⟩ : ∃ w1, w1 = w0.alloc (.cells (madeCells #[.bool false] hz.length) 4) := ⟨_, rfl⟩
  rw [← hw1] at hB hE1 hmk
  have hG1 := Lib.hid (hG0.ext hE1)
  have hE2 := Lib.hid (hE0.trans hE1)
  have hB := Lib.hid hB
  have hbw : w.heap.size ≤ bx := by omega
  clear hE1 hG0 hE0 hs0 hw1
  go_enter Try.func96, Try.ntmps96
  go_wp2_with fail
  rw [← hw0, ← hbx, hmk]
  clear hw0 hbx hmk
  go_wp2_with fail
  go_loopw [13] (fun i wr => ∃ k : Nat, k ≤ hz.length ∧ i = .int .i64 k ∧ Hid (Gbox wr bx (gAt x hz k)) ∧ Hid (Blk wr (bx + 1) 4 hz.length) ∧ Hid (∀ j, j < k → wr.cell? ⟨bx + 1, j, none⟩ = some (.bool (gAt x hz (j + 1)).shuts)) ∧ Ext w wr) (fun i _ => hz.length - (intOf i).toNat)
  case atStart => exact ⟨0, Nat.zero_le _, rfl, hG1.out, hB.out, upto_zero, hE2.out⟩
  case round =>
    clear hG1 hE2 hB
    obtain ⟨k, hk, rfl, hG, hB, hall, he⟩ := hrel
    by_cases hlt : k < hz.length
    · obtain ⟨b, off, rfl⟩ := HI.out.base hlt
      obtain ⟨hb, d0⟩ := IntAt.at (HI.out.ext he) k hlt
      obtain ⟨y, hy⟩ : ∃ y, y = gAt x hz k := ⟨_, rfl⟩
      have hyok : gateB y = true := by rw [hy]; exact HX.out k
      have hnx : Hid (gAt x hz (k + 1) = stepG y (nth hz k)) := by show _ = _; rw [hy]; rfl
      rw [← hy] at hG
      have hE := Lib.hid he
      have hst := Lib.hid (Gate_step y (nth hz k) wr hyok)
      clear hy he
      obtain ⟨gl, g0, g1, g2, g3, g4, g5⟩ := hG.out.all
      have k0 := hG.out.blk.frozen 0
      have k1 := hG.out.blk.frozen 1
      have k2 := hG.out.blk.frozen 2
      have k3 := hG.out.blk.frozen 3
      have k4 := hG.out.blk.frozen 4
      have k5 := hG.out.blk.frozen 5
      go_wp2_with fail
      refine hst.out.mono ?_
      rintro e w' ⟨rfl, q, rfl⟩
      rw [← hnx.out]
      clear hst hyok
      obtain ⟨W, hW⟩ : ∃ W, W = lift wr q := ⟨_, rfl⟩
      have hEW : Hid (Ext w W) := by show Ext w W; rw [hW]; exact hE.out.lift _
      have hGW : Hid (Gbox W bx y) := by show Gbox W bx y; rw [hW]; exact hG.out.ext ((Ext.refl _).lift _)
      have hBW : Hid (Blk W (bx + 1) 4 hz.length) := by show Blk _ _ _ _; rw [hW]; exact hB.out.ext ((Ext.refl _).lift _)
      have haW : Hid (∀ j, j < k → W.cell? ⟨bx + 1, j, none⟩ = some (.bool (gAt x hz (j + 1)).shuts)) := fun j hj => by rw [hW]; exact ((Ext.refl _).lift _).cell (hall.out j hj)
      rw [← hW]
      clear hW hG hB hall g0 g1 g2 g3 g4 g5 k0 k1 k2 k3 k4 k5 gl hE
      obtain ⟨z, hz1⟩ : ∃ z, z = gAt x hz (k + 1) := ⟨_, rfl⟩
      rw [← hz1]
      replace hz1 := Lib.hid hz1
      obtain ⟨gl, g0, g1, g2, g3, g4, g5⟩ := hGW.out.all
      have k0 := hGW.out.blk.frozen 0
      have k1 := hGW.out.blk.frozen 1
      have k2 := hGW.out.blk.frozen 2
      have k3 := hGW.out.blk.frozen 3
      have k4 := hGW.out.blk.frozen 4
      have k5 := hGW.out.blk.frozen 5
      have hP := Gbox.put hGW.out.blk z
      have hBP := hBW.out.setCells bx (gvs z) 0
      have hal : Hid (∀ j, j < k → (W.setCells bx 0 (gvs z)).cell? ⟨bx + 1, j, none⟩ = some (.bool (gAt x hz (j + 1)).shuts)) := fun j hj => by
        rw [World.cell?_setCells_out bx (gvs z) 0 W ⟨bx + 1, j, none⟩ (fun h _ => absurd h (by show ¬ bx + 1 = bx; omega))]; exact haW.out j hj
      have hEP := Lib.hid (ext_setCells (g := bx) hbw (gvs z) 0 W hEW.out)
      have hFO := fill_one (c := fun j => Value.bool (gAt x hz (j + 1)).shuts) (v := .bool z.shuts) hBP hlt hal.out (by rw [hz1.out])
      have hF2 := Lib.hid hFO.1
      have hF3 := Lib.hid hFO.2
      have hF1 := Lib.hid (hP.beside (g := bx + 1) (o := k) (by omega) (.bool z.shuts))
      rw [hz1.out] at hF1
      have hF4 := Lib.hid (hEP.out.setCell (p := ⟨bx + 1, k, none⟩) (by show w.heap.size ≤ bx + 1; omega) (.bool z.shuts))
      have sl := hBW.out.lt
      have sf := hBW.out.frozen k
      obtain ⟨su, so⟩ := hBW.out.cell hlt
      rw [← hz1.out] at hF1
      clear hP hBP hal hEP hFO hGW hBW haW hEW
      go_wp2_with fail
      go_roundw
      case rel => exact ⟨k + 1, by omega, by go_num, by rw [← hz1.out]; exact hF1.out, hF2.out, hF3.out, hF4.out⟩
      case measure => simp [intOf]; omega
    · obtain rfl : k = hz.length := by omega
      have hR : Hid (BoolAt wr (some ⟨bx + 1, 0, none⟩) (bools x hz hz.length)) := fun j hj => by
        rw [bools_len] at hj
        refine ⟨bx + 1, 0, rfl, hB.out.lt, fun i hi => ?_⟩
        obtain rfl : i = 0 := by omega
        rw [Nat.mul_one, Nat.zero_add, Nat.add_zero, bools_at x hz hj]
        exact hall.out j hj
      clear hG hB hall
      go_wp2_with fail
      go_ret
      exact ⟨bx + 1, rfl, hR.out, he⟩
set_option maxRecDepth 100000 in
set_option maxHeartbeats 8000000 in
theorem Gate_shutHours (x : Gate) (a : Option Addr) (cap : Nat) (hz : List Int) (w : World) (hx : gateB x = true) (H : IntAt w a hz) (hn : hz.length ≤ 1048576) :
    Gives Try.prog 71 #[.agg #[.string x.id, .int .i64 x.shut, .int .i64 x.opn, .int .i64 x.hold, .bool x.shuts, .int .i64 x.calm], .slice a hz.length cap] w (.tuple #[.int .i64 (hoursG x hz hz.length), .int .i64 (timesG x hz hz.length)]) := by
  unfold Gives
  have HR := Lib.hid fun (W : World) (he : Ext w W) => Gate_run x a cap hz W hx (RowsAt.ext H he) hn
  clear H hx
  go_enter Try.func71, Try.ntmps71
  go_wp2_with fail
  refine region_quiet (by kernel_rfl) (by kernel_rfl) ?_
  repeat (any_goals (first | go_big_quiet_step ((fail)) | quiet_step ((fail))))
  refine wpQuiet_nil ?_
  intro _ hw'
  obtain ⟨y, hw''⟩ := hw'
  subst hw''
  go_wp2_with fail
  refine (HR.out _ (by repeat (first | exact Ext.refl _ | refine Ext.lift ?_ _ | refine Ext.alloc ?_ _))).mono ?_
  rintro e W ⟨g, rfl, hB, hE⟩
  have hE2 : Hid (Ext w W) := Ext.trans (by repeat (first | exact Ext.refl _ | refine Ext.lift ?_ _ | refine Ext.alloc ?_ _)) hE
  have hB := Lib.hid hB
  clear HR hE
  go_wp2_with fail
  go_loopw [6, 7, 8, 17] (fun h t b i wr => ∃ k : Nat, k ≤ hz.length ∧ i = .int .i64 k ∧ h = .int .i64 (hoursG x hz k) ∧ t = .int .i64 (timesG x hz k) ∧ b = .bool (gAt x hz k).shuts ∧ wr = W) (fun _ _ _ i _ => hz.length - (intOf i).toNat)
  case atStart => exact ⟨0, Nat.zero_le _, rfl, rfl, rfl, rfl, rfl⟩
  case round =>
    obtain ⟨k, hk, rfl, rfl, rfl, rfl, rfl⟩ := hrel
    obtain ⟨b1, b2⟩ := hours_bd x hz k
    obtain ⟨b3, b4⟩ := times_bd x hz k
    by_cases hlt : k < hz.length
    · obtain ⟨hbl, c0⟩ := BoolAt.at hB.out k (by rw [bools_len]; exact hlt)
      rw [bools_at x hz hlt, Nat.zero_add] at c0
      have n1 : Hid (hoursG x hz (k + 1) = hoursG x hz k + if (gAt x hz (k + 1)).shuts = true then 1 else 0) := rfl
      have n2 : Hid (timesG x hz (k + 1) = timesG x hz k + if (gAt x hz (k + 1)).shuts = true ∧ (gAt x hz k).shuts = false then 1 else 0) := rfl
      cases h1 : (gAt x hz (k + 1)).shuts <;> cases h2 : (gAt x hz k).shuts
      all_goals
        rw [h1] at c0 n1 n2
        rw [h2] at n2
        have h1h := Lib.hid h1
        clear h1 h2
        go_wp2_with fail
        go_roundw
        case rel => exact ⟨k + 1, by omega, by go_num, by rw [n1.out]; simp, by rw [n2.out]; simp, by rw [h1h.out], by first | rfl | trivial⟩
        case measure => simp [intOf]; omega
    · obtain rfl : k = hz.length := by omega
      go_wp2_with fail
      go_ret2
      exact ⟨rfl, hE2.out⟩
set_option maxRecDepth 100000 in
set_option maxHeartbeats 4000000 in
theorem Gate_code (x : Gate) (a : Option Addr) (cap : Nat) (hz : List Int) (t : Int) (w : World) (hx : gateB x = true) (H : IntAt w a hz) (hn : hz.length ≤ 64) (hall : allIn hz 0 1000 = true) (t0 : 0 ≤ t) (t1 : t ≤ 64) :
    Gives Try.prog 67 #[.agg #[.string x.id, .int .i64 x.shut, .int .i64 x.opn, .int .i64 x.hold, .bool x.shuts, .int .i64 x.calm], .slice a hz.length cap, .int .i64 t] w (.int .i64 0) := by
  unfold Gives
  have hid := (gateB_bd hx).1
  have HV := Lib.hid fun (W : World) => Gate_valid x W (by omega)
  rw [hx] at HV
  have HA := Lib.hid fun (W : World) (he : Ext w W) => allWithin_any a cap hz 0 1000 W (RowsAt.ext H he) (by omega)
  rw [hall] at HA
  have hin : inB t 0 64 = true := inB_iff.2 ⟨t0, t1⟩
  clear H hx hall
  go_enter Try.func67, Try.ntmps67
  go_wp2_with (first | (go_at_call 95; refine (HV.out _).mono ?_; rintro e w' ⟨rfl, y, rfl⟩) | (go_at_call 76; refine (HA.out _ (by repeat (first | exact Ext.refl _ | refine Ext.lift ?_ _ | refine Ext.alloc ?_ _))).mono ?_; rintro e w' ⟨rfl, y2, rfl⟩) | (go_at_call 86; refine (within_any _ _ _ _).mono ?_; rintro e w' ⟨rfl, rfl⟩; rw [hin]))
  go_ret
  exact ⟨rfl, (by repeat (first | exact Ext.refl _ | refine Ext.lift ?_ _ | refine Ext.alloc ?_ _))⟩
theorem l21Hazard_ok (n : Int) (w : World) (h0 : 0 ≤ n) (h1 : n ≤ 1000) :
    Calls Try.prog 80 #[.int .i64 n] w fun e w' => e = .returned (.bool true) ∧ w' = w := by
  have hin : inB n 0 1000 = true := inB_iff.2 ⟨h0, h1⟩
  go_enter Try.func80, Try.ntmps80
  go_wp2_with (go_at_call 85; refine (l00In_any _ _ _ _).mono ?_; rintro e w' ⟨rfl, rfl⟩; rw [hin])
  go_ret
  exact ⟨rfl, rfl⟩
theorem Gbox.ok {w : World} {b : Nat} {x : Gate} (h : Gbox w b x) (hx : gateB x = true) : Gives Try.prog 79 #[.pointer (some ⟨b, 0, none⟩)] w (.bool true) := by
  have := l21Ok_any b 0 x w (by have := (gateB_bd hx).1; omega) (h.cell 0 (by decide)) (h.cell 1 (by decide)) (h.cell 2 (by decide)) (h.cell 3 (by decide)) (h.cell 4 (by decide)) (h.cell 5 (by decide))
  rwa [hx] at this
set_option maxRecDepth 100000 in
set_option maxHeartbeats 4000000 in
theorem l21Ask_any (b : Nat) (x : Gate) (a : Option Addr) (cap : Nat) (hz : List Int) (w : World) (hG : Gbox w b x) (hx : gateB x = true) (H : IntAt w a hz) (hn : hz.length ≤ 64) (hall : allIn hz 0 1000 = true) :
    Gives Try.prog 72 #[.pointer (some ⟨b, 0, none⟩), .slice a hz.length cap] w (.int .i64 0) := by
  unfold Gives
  have HV := Lib.hid (hG.ok hx)
  have HI := Lib.hid H
  have HL := Lib.hid (allIn_iff.1 hall)
  clear H hx hall hG
  go_enter Try.func72, Try.ntmps72
  go_wp2_with (go_at_call 79; refine HV.out.mono ?_; rintro e w' ⟨rfl, y, rfl⟩)
  go_loopw [5] (fun i wr => ∃ k : Nat, k ≤ hz.length ∧ i = .int .i64 k ∧ Ext w wr) (fun i _ => hz.length - (intOf i).toNat)
  case atStart => exact ⟨0, Nat.zero_le _, rfl, (by repeat (first | exact Ext.refl _ | refine Ext.lift ?_ _ | refine Ext.alloc ?_ _))⟩
  case round =>
    obtain ⟨k, hk, rfl, he⟩ := hrel
    by_cases hlt : k < hz.length
    · obtain ⟨bb, off, rfl⟩ := HI.out.base hlt
      obtain ⟨hb, c0⟩ := IntAt.at (HI.out.ext he) k hlt
      have hi := inB_iff.1 (HL.out k hlt)
      go_wp2_with (go_at_call 80; refine (l21Hazard_ok _ _ (by omega) (by omega)).mono ?_; rintro e w' ⟨rfl, rfl⟩)
      go_roundw
      case rel => exact ⟨k + 1, by omega, by go_num, he⟩
      case measure => simp [intOf]; omega
    · go_wp2_with fail
      go_ret
      exact ⟨rfl, he⟩
theorem oneBool (x : Bool) (j : Nat) (_ : j < 1) : (cellT x j).oneCell' = true := rfl
theorem elBool : El Try.prog 117 4 1 1 := El.mk' Try.underlying117 (by kernel_rfl) (by decide)
set_option maxRecDepth 100000 in
set_option maxHeartbeats 8000000 in
theorem l21Run_any (x : Gate) (a : Option Addr) (cap : Nat) (hz : List Int) (w : World) (hx : gateB x = true) (H : IntAt w a hz) (hn : hz.length ≤ 1048576) :
    Calls Try.prog 97 #[.agg #[.string x.id, .int .i64 x.shut, .int .i64 x.opn, .int .i64 x.hold, .bool x.shuts, .int .i64 x.calm], .slice a hz.length cap] w fun e w' => ∃ o oc, e = .returned (.slice o hz.length oc) ∧ BoolAt w' o (bools x hz hz.length) ∧ Ext w w' := by
  have HI := Lib.hid H
  have HX := Lib.hid fun k => gAt_ok hx hz k
  clear H hx
  obtain ⟨w0, hw0⟩ : ∃ w0, w0 = w.alloc (.cells #[.string x.id, .int .i64 x.shut, .int .i64 x.opn, .int .i64 x.hold, .bool x.shuts, .int .i64 x.calm] 54) := ⟨_, rfl⟩
  obtain ⟨bx, hbx⟩ : ∃ bx, bx = w.heap.size := ⟨_, rfl⟩
  have hE0 : Ext w w0 := by rw [hw0]; exact (Ext.refl w).alloc _
  have hG0 : Gbox w0 bx x := by rw [hw0, hbx]; exact Gbox.new w x
  have hs0 : w0.heap.size = bx + 1 := by rw [hw0, size_new, hbx]
  have hL0 := Lst.new (T := 4) (n := 1) (cell := cellT) w0 (bx + 1) (by omega)
  rw [hs0] at hL0
  have hE1 := (Ext.refl w0).alloc (.cells #[] 4)
  have hG1 := Lib.hid (hG0.ext hE1)
  have hE2 := Lib.hid (hE0.trans hE1)
  replace hL0 := Lib.hid hL0
  have hbw : w.heap.size ≤ bx := by omega
  clear hE1 hG0 hE0 hs0
  go_enter Try.func97, Try.ntmps97
  go_wp2_with fail
  rw [← hw0, ← hbx]
  clear hw0 hbx
  go_loopw [5, 6] (fun o i wr => ∃ k : Nat, k ≤ hz.length ∧ i = .int .i64 k ∧ Hid (Gbox wr bx (gAt x hz k)) ∧ Hid (Lst 4 1 cellT wr (bx + 1) o (bools x hz k)) ∧ Hid (Ext w wr) ∧ bx + 1 ≤ wr.heap.size) (fun _ i _ => hz.length - (intOf i).toNat)
  case atStart => exact ⟨0, Nat.zero_le _, rfl, hG1.out, hL0.out, hE2.out, (by have := hG1.out.blk.lt; first | omega | (simp at this ⊢; omega))⟩
  case round =>
    clear hG1 hE2 hL0
    obtain ⟨k, hk, rfl, hG, hL, hE, hsr⟩ := hrel
    by_cases hlt : k < hz.length
    · obtain ⟨b, off, rfl⟩ := HI.out.base hlt
      obtain ⟨hb, d0⟩ := IntAt.at (HI.out.ext hE.out) k hlt
      obtain ⟨y, hy⟩ : ∃ y, y = gAt x hz k := ⟨_, rfl⟩
      have hyok : gateB y = true := by rw [hy]; exact HX.out k
      have hnx : Hid (gAt x hz (k + 1) = stepG y (nth hz k)) := by show _ = _; rw [hy]; rfl
      rw [← hy] at hG
      clear hy
      obtain ⟨gl, g0, g1, g2, g3, g4, g5⟩ := hG.out.all
      have k0 := hG.out.blk.frozen 0
      have k1 := hG.out.blk.frozen 1
      have k2 := hG.out.blk.frozen 2
      have k3 := hG.out.blk.frozen 3
      have k4 := hG.out.blk.frozen 4
      have k5 := hG.out.blk.frozen 5
      go_wp2_with fail
      refine Grow.region_tail 6 [0, 1, 2, 3, 4, 5] [] (by kernel_rfl) (by kernel_rfl) ?_
      simp only [Grow.pick, Grow.pickB, List.getElem?_cons_succ, List.getElem?_cons_zero, List.drop_succ_cons, List.drop_zero]
      repeat
        refine Grow.heads_step (fun K' hK => ⟨rfl, ?_⟩)
        apply Exists.intro
        apply And.intro
        · intro w' hw'
          obtain ⟨x', rfl⟩ := hw'
          go_simp
          first | done | rfl | (rw [if_neg (by omega)]; done) | (rw [if_neg (by omega)]; rfl) | (rw [if_pos (by omega)]; done) | (rw [if_pos (by omega)]; rfl)
        go_simp
        refine hK _ ?_
        clear hK K'
      refine Grow.heads_call _ _ _ (fun K' hK => ⟨rfl, ?_, (fun w' h' => l21Step_any y (nth hz k) _ hyok), ?_⟩)
      · intro w' hw'
        obtain ⟨x', rfl⟩ := hw'
        go_simp
        first | done | rfl
      go_simp
      refine hK _ ?_
      clear hK K'
      repeat
        refine Grow.heads_step (fun K' hK => ⟨rfl, ?_⟩)
        apply Exists.intro
        apply And.intro
        · intro w' hw'
          obtain ⟨x', rfl⟩ := hw'
          go_simp
          first | done | rfl | (rw [if_neg (by omega)]; done) | (rw [if_neg (by omega)]; rfl) | (rw [if_pos (by omega)]; done) | (rw [if_pos (by omega)]; rfl)
        go_simp
        refine hK _ ?_
        clear hK K'
      refine Grow.heads_nil ?_
      intro w1 e1
      refine Grow.seq_nil ?_
      rw [← hnx.out]
      obtain ⟨z, hz1⟩ : ∃ z, z = gAt x hz (k + 1) := ⟨_, rfl⟩
      rw [← hz1]
      replace hz1 := Lib.hid hz1
      have hw1 : bx + 1 ≤ w1.heap.size := Nat.le_trans hsr e1.size
      have hGW := Lib.hid (hG.out.ext e1)
      have hLW := Lib.hid (hL.out.ext e1)
      have hEW := Lib.hid (hE.out.trans e1)
      clear hG hL hE g0 g1 g2 g3 g4 g5 k0 k1 k2 k3 k4 k5 gl e1 hnx hyok hsr d0 hb
      obtain ⟨la, lc, rfl, hlc, hlm, -, -⟩ := hLW.out.shape
      have hbl := bools_len x hz k
      obtain ⟨gl, g0, g1, g2, g3, g4, g5⟩ := hGW.out.all
      have k0 := hGW.out.blk.frozen 0
      have k1 := hGW.out.blk.frozen 1
      have k2 := hGW.out.blk.frozen 2
      have k3 := hGW.out.blk.frozen 3
      have k4 := hGW.out.blk.frozen 4
      have k5 := hGW.out.blk.frozen 5
      have hws : Hid ((w1.setCells bx 0 (gvs z)).heap.size = w1.heap.size) := by show _ = _; simp [World.setCells]
      have hP := Gbox.put hGW.out.blk z
      have HLA := Lib.hid ((Lst.setCells bx (gvs z) 0 w1 hLW.out (Nat.lt_succ_self bx)).ext ((Ext.refl _).alloc (.cells #[.bool z.shuts] 4)))
      have HRA : Hid (BoolAt ((w1.setCells bx 0 (gvs z)).alloc (.cells #[.bool z.shuts] 4)) (some ⟨w1.heap.size, 0, none⟩) [z.shuts]) := by
        have := rows_new (n := 1) (cell := cellT) (T := 4) (w1.setCells bx 0 (gvs z)) #[.bool z.shuts] z.shuts (fun j hj => by have h0 : j = 0 := (by have h1 : j < 1 := hj; omega); subst h0; rfl)
        rwa [hws.out] at this
      have hEA := Lib.hid ((ext_setCells (g := bx) hbw (gvs z) 0 w1 hEW.out).alloc (.cells #[.bool z.shuts] 4))
      have hGA := Lib.hid (hP.ext ((Ext.refl _).alloc (.cells #[.bool z.shuts] 4)))
      have hsA : Hid (bx + 1 ≤ ((w1.setCells bx 0 (gvs z)).alloc (.cells #[.bool z.shuts] 4)).heap.size) := by show _ ≤ _; rw [size_new, hws.out]; omega
      have hk1 : (bools x hz k).length + 1 ≤ 9223372036854775807 := by omega
      have hbl := Lib.hid hbl
      clear hP hGW hLW hEW
      try dsimp only
      repeat (first | (at_builtin; refine Hid.out ?_) | go_values | go_skip | go_guarded | go_step | go_upon | go_back)
      refine Lib.hid ?_
      refine wpList_pushL elBool oneBool rfl _ _ rfl (bx + 1) _ (bools x hz k) rfl HLA.out _ 1 1 [z.shuts] rfl rfl HRA.out hk1 (by rw [hbl.out]; omega) hsA.out ?_
      intro v3 w3 L3 hs3 hg3
      have hL3 : Hid (Lst 4 1 cellT w3 (bx + 1) v3 (bools x hz (k + 1))) := by
        show Lst _ _ _ _ _ _ (bools x hz k ++ [(gAt x hz (k + 1)).shuts])
        rw [← hz1.out]; exact L3
      have hE3 := Lib.hid (hs3 w hEA.out (by omega))
      have hG3 := Lib.hid (hGA.out.grown hg3 (HLA.out.row_ne (Nat.lt_succ_self bx)))
      have hs3' : bx + 1 ≤ w3.heap.size := Nat.le_trans hsA.out hg3.size
      clear L3 hs3 hg3 HLA HRA hEA hGA hsA g0 g1 g2 g3 g4 g5 k0 k1 k2 k3 k4 k5 gl
      go_wp2_with fail
      go_roundw
      case rel => exact ⟨k + 1, by omega, by go_num, by rw [← hz1.out]; exact hG3.out, hL3.out, hE3.out, hs3'⟩
      case measure => simp [intOf]; omega
    · obtain rfl : k = hz.length := by omega
      obtain ⟨la, lc, rfl, hlc, hlm, hR, -⟩ := hL.out.shape
      have hR := Lib.hid hR
      have hE := Lib.hid hE.out
      clear hG hL
      go_wp2_with fail
      go_ret
      exact ⟨la, lc, by show Ending.returned (.slice la (bools x hz hz.length).length lc) = _; rw [bools_len], hR.out, hE.out⟩
set_option maxRecDepth 100000 in
set_option maxHeartbeats 8000000 in
theorem l21Times_any (x : Gate) (a : Option Addr) (cap : Nat) (hz : List Int) (w : World) (hx : gateB x = true) (H : IntAt w a hz) (hn : hz.length ≤ 1048576) :
    Gives Try.prog 73 #[.agg #[.string x.id, .int .i64 x.shut, .int .i64 x.opn, .int .i64 x.hold, .bool x.shuts, .int .i64 x.calm], .slice a hz.length cap] w (.tuple #[.int .i64 (hoursG x hz hz.length), .int .i64 (timesG x hz hz.length)]) := by
  unfold Gives
  have HR := Lib.hid fun (W : World) (he : Ext w W) => l21Run_any x a cap hz W hx (RowsAt.ext H he) hn
  clear H hx
  go_enter Try.func73, Try.ntmps73
  go_wp2_with fail
  refine (HR.out _ (by repeat (first | exact Ext.refl _ | refine Ext.lift ?_ _ | refine Ext.alloc ?_ _))).mono ?_
  rintro e W ⟨o, oc, rfl, hB, y, rfl⟩
  have hE2 : Hid (Ext w (lift (w.alloc (.cells #[.string x.id, .int .i64 x.shut, .int .i64 x.opn, .int .i64 x.hold, .bool x.shuts, .int .i64 x.calm] 54)) y)) := by show Ext _ _; exact (by repeat (first | exact Ext.refl _ | refine Ext.lift ?_ _ | refine Ext.alloc ?_ _))
  have hB := Lib.hid hB
  clear HR
  go_wp2_with fail
  generalize lift (w.alloc (.cells #[.string x.id, .int .i64 x.shut, .int .i64 x.opn, .int .i64 x.hold, .bool x.shuts, .int .i64 x.calm] 54)) y = W at *
  go_loopw [7, 8, 9, 10] (fun b h t i wr => ∃ k : Nat, k ≤ hz.length ∧ i = .int .i64 k ∧ h = .int .i64 (hoursG x hz k) ∧ t = .int .i64 (timesG x hz k) ∧ b = .bool (gAt x hz k).shuts ∧ wr = W) (fun _ _ _ i _ => hz.length - (intOf i).toNat)
  case atStart => exact ⟨0, Nat.zero_le _, rfl, rfl, rfl, rfl, rfl⟩
  case round =>
    obtain ⟨k, hk, rfl, rfl, rfl, rfl, rfl⟩ := hrel
    obtain ⟨b1, b2⟩ := hours_bd x hz k
    obtain ⟨b3, b4⟩ := times_bd x hz k
    by_cases hlt : k < hz.length
    · obtain ⟨ob, oo, rfl⟩ := hB.out.base (show k < (bools x hz hz.length).length by rw [bools_len]; exact hlt)
      obtain ⟨hbl, c0⟩ := BoolAt.at hB.out k (by rw [bools_len]; exact hlt)
      rw [bools_at x hz hlt] at c0
      have n1 : Hid (hoursG x hz (k + 1) = hoursG x hz k + if (gAt x hz (k + 1)).shuts = true then 1 else 0) := rfl
      have n2 : Hid (timesG x hz (k + 1) = timesG x hz k + if (gAt x hz (k + 1)).shuts = true ∧ (gAt x hz k).shuts = false then 1 else 0) := rfl
      cases h1 : (gAt x hz (k + 1)).shuts <;> cases h2 : (gAt x hz k).shuts
      all_goals
        rw [h1] at c0 n1 n2
        rw [h2] at n2
        have h1h := Lib.hid h1
        clear h1 h2
        go_wp2_with fail
        go_roundw
        case rel => exact ⟨k + 1, by omega, by go_num, by rw [n1.out]; simp, by rw [n2.out]; simp, by rw [h1h.out], by first | rfl | trivial⟩
        case measure => simp [intOf]; omega
    · obtain rfl : k = hz.length := by omega
      go_wp2_with fail
      go_ret2
      exact ⟨rfl, hE2.out⟩
set_option maxRecDepth 100000 in
set_option maxHeartbeats 8000000 in
theorem specShutHours_any (x : Gate) (a : Option Addr) (cap : Nat) (hz : List Int) (w : World) (hx : gateB x = true) (H : IntAt w a hz) (hn : hz.length ≤ 64) (hall : allIn hz 0 1000 = true) :
    Gives Try.prog 36 #[.agg #[.string x.id, .int .i64 x.shut, .int .i64 x.opn, .int .i64 x.hold, .bool x.shuts, .int .i64 x.calm], .slice a hz.length cap] w (.tuple #[.int .i64 (hoursG x hz hz.length), .int .i64 (timesG x hz hz.length), .int .i64 0]) := by
  unfold Gives
  have HA := Lib.hid (l21Ask_any w.heap.size x a cap hz (w.alloc (.cells #[.string x.id, .int .i64 x.shut, .int .i64 x.opn, .int .i64 x.hold, .bool x.shuts, .int .i64 x.calm] 54)) (Gbox.new w x) hx (RowsAt.ext H ((Ext.refl _).alloc _)) hn hall)
  have HT := Lib.hid fun (W : World) (he : Ext w W) => l21Times_any x a cap hz W hx (RowsAt.ext H he) (by omega)
  clear H hx hall
  go_enter Try.func36, Try.ntmps36
  go_wp2_with (first | (go_at_call 72; refine HA.out.mono ?_; rintro e w' ⟨rfl, y, rfl⟩) | (go_at_call 73; refine (HT.out _ (by repeat (first | exact Ext.refl _ | refine Ext.lift ?_ _ | refine Ext.alloc ?_ _))).mono ?_; rintro e w' ⟨rfl, y2, rfl⟩))
  go_ret3
  exact ⟨rfl, (by repeat (first | exact Ext.refl _ | refine Ext.lift ?_ _ | refine Ext.alloc ?_ _))⟩
end Go.Proofs.Ytahfjoadpipghaa

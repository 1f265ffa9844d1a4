/- The law FnGates: a gate is shut by a hazard and opened only after its calm hours, a run is its hours one by one, and gates are restored from their texts: for all inputs, of any length. -/
import Derived.Test.YtfiiaegfikocoaaDoorGatesR
import Derived.Test.YtfiiaegfikocoaaDoorHoldE
import Derived.Test.YtfiiaegfikocoaaDoorGateBack
import Derived.Test.YtfiiaegfikocoaaDoorRGateI
import Derived.Test.YtfiiaegfikocoaaDoorRTab
namespace Go.Proofs.YtfiiaegfikocoaaDoor
open Go.RowKit
theorem hazardOk_ok (z : Int) (w : World) (z0 : 0 ≤ z) (z1 : z ≤ 1000) : Calls Tryd.prog 39 #[.int .i64 z] w fun e w' => e = .returned (.bool true) ∧ w' = w := by
  have hin : inB z 0 1000 = true := inB_iff.2 ⟨z0, z1⟩
  go_enter Tryd.func39, Tryd.ntmps39
  go_wp2_with (go_at_call 53; refine (within_any _ _ _ _).mono ?_; rintro e w' ⟨rfl, rfl⟩; rw [hin])
  go_ret
  exact ⟨rfl, rfl⟩
set_option maxRecDepth 100000 in
set_option maxHeartbeats 4000000 in
theorem implStepGate_any (x : Gate) (z : Int) (w : World) (hx : gateB x = true) (z0 : 0 ≤ z) (z1 : z ≤ 1000) :
    Gives Tryd.prog 16 #[.agg #[.string x.id, .int .i64 x.shut, .int .i64 x.opn, .int .i64 x.hold, .bool x.shuts, .int .i64 x.calm], .int .i64 z] w (.tuple #[.agg #[.string (stepG x z).id, .int .i64 (stepG x z).shut, .int .i64 (stepG x z).opn, .int .i64 (stepG x z).hold, .bool (stepG x z).shuts, .int .i64 (stepG x z).calm], .int .i64 0]) := by
  unfold Gives
  obtain ⟨w0, hw0⟩ : ∃ w0, w0 = (w.alloc (.cells #[.string x.id, .int .i64 x.shut, .int .i64 x.opn, .int .i64 x.hold, .bool x.shuts, .int .i64 x.calm] 31)).alloc (.cells #[.string ⟨#[]⟩, .int .i64 0, .int .i64 0, .int .i64 0, .bool false, .int .i64 0] 31) := ⟨_, rfl⟩
  obtain ⟨bx, hbx⟩ : ∃ bx, bx = w.heap.size := ⟨_, rfl⟩
  have hE0 : Ext w w0 := by rw [hw0]; exact (by repeat (first | exact Ext.refl _ | refine Ext.lift ?_ _ | refine Ext.alloc ?_ _))
  have hG0 : Gbox w0 bx x := by rw [hw0, hbx]; exact (Gbox.new w x).ext ((Ext.refl _).alloc _)
  have hB0 : Blk w0 (bx + 1) 31 6 := by
    have := Blk.new (w.alloc (.cells #[.string x.id, .int .i64 x.shut, .int .i64 x.opn, .int .i64 x.hold, .bool x.shuts, .int .i64 x.calm] 31)) #[.string ⟨#[]⟩, .int .i64 0, .int .i64 0, .int .i64 0, .bool false, .int .i64 0] 31
    rw [size_new, ← hbx, ← hw0] at this
    exact this
  have hid := (gateB_bd hx).1
  have HO := Lib.hid fun (W : World) => Gate_valid x W (by omega)
  rw [hx] at HO
  have HS := Lib.hid fun (W : World) => Gate_step x z W hx
  have hbw : w.heap.size ≤ bx := by omega
  clear hx
  go_enter Tryd.func16, Tryd.ntmps16
  go_wp2_with fail
  rw [← hw0, ← hbx]
  clear hw0 hbx
  refine (HO.out _).mono ?_
  rintro e w' ⟨rfl, y, rfl⟩
  go_wp2_with fail
  refine (hazardOk_ok z _ z0 z1).mono ?_
  rintro e w' ⟨rfl, hw'⟩
  rw [hw']
  clear hw' w'
  have hG1 := Lib.hid (hG0.ext ((Ext.refl _).lift y))
  have hB1 := Lib.hid (hB0.ext ((Ext.refl _).lift y))
  have hE1 := Lib.hid (hE0.lift y)
  clear hG0 hB0 hE0 HO
  generalize lift w0 y = W1 at *
  obtain ⟨gl, g0, g1, g2, g3, g4, g5⟩ := hG1.out.all
  go_wp2_with fail
  refine (HS.out _).mono ?_
  rintro e w' ⟨rfl, he⟩
  have hE2 := Lib.hid (hE1.out.trans he)
  have hB2 := hB1.out.ext he
  clear HS hG1 hB1 hE1 he g0 g1 g2 g3 g4 g5 gl
  have rl := hB2.lt
  obtain ⟨v0, w0'⟩ := hB2.cell (o := 0) (by decide)
  obtain ⟨v1, w1'⟩ := hB2.cell (o := 1) (by decide)
  obtain ⟨v2, w2'⟩ := hB2.cell (o := 2) (by decide)
  obtain ⟨v3, w3'⟩ := hB2.cell (o := 3) (by decide)
  obtain ⟨v4, w4'⟩ := hB2.cell (o := 4) (by decide)
  obtain ⟨v5, w5'⟩ := hB2.cell (o := 5) (by decide)
  have n0 := hB2.frozen 0
  have n1 := hB2.frozen 1
  have n2 := hB2.frozen 2
  have n3 := hB2.frozen 3
  have n4 := hB2.frozen 4
  have n5 := hB2.frozen 5
  have hrw : w.heap.size ≤ bx + 1 := by omega
  obtain ⟨s, hs⟩ : ∃ s, s = stepG x z := ⟨_, rfl⟩
  rw [← hs]
  replace hs := Lib.hid hs
  clear hB2
  have hE3 := Lib.hid ((((((hE2.out.setCell (p := ⟨bx + 1, 0, none⟩) hrw (.string s.id)).setCell (p := ⟨bx + 1, 1, none⟩) hrw (.int .i64 s.shut)).setCell (p := ⟨bx + 1, 2, none⟩) hrw (.int .i64 s.opn)).setCell (p := ⟨bx + 1, 3, none⟩) hrw (.int .i64 s.hold)).setCell (p := ⟨bx + 1, 4, none⟩) hrw (.bool s.shuts)).setCell (p := ⟨bx + 1, 5, none⟩) hrw (.int .i64 s.calm))
  go_wp2_with fail
  refine bodyPost_ret (v := .tuple #[.agg #[.string s.id, .int .i64 s.shut, .int .i64 s.opn, .int .i64 s.hold, .bool s.shuts, .int .i64 s.calm], .int .i64 0]) (by simp [results, Tryd.results16, go_sem, w0', w1', w2', w3', w4', w5']) rfl ?_
  exact ⟨by rw [← hs.out], hE3.out⟩
theorem Gbox.put' {w : World} {b : Nat} {y : Gate} (h : Blk w b 31 6) (vs : List Value) (e : vs = gvs y) : Gbox (w.setCells b 0 vs) b y := e ▸ Gbox.put h y
theorem by_key {P G : Prop} (h : P → G) (k : P) : G := h k
set_option maxRecDepth 100000 in
set_option maxHeartbeats 16000000 in
theorem gates_law (w : World) (ht : RTab w) (a0 : Option Addr) (cap0 : Nat) (l0 : List UInt8) (H0 : RowsAt 1 (fun (x : UInt8) (_ : Nat) => Value.int .u8 x.toNat) w a0 l0) (_ : ∀ k, k < l0.length → True) (hn0 : l0.length ≤ 9223372036854775807) (_ : l0.length ≤ cap0)
    (a1 : Option Addr) (cap1 : Nat) (l1 : List UInt8) (H1 : RowsAt 1 (fun (x : UInt8) (_ : Nat) => Value.int .u8 x.toNat) w a1 l1) (_ : ∀ k, k < l1.length → True) (hn1 : l1.length ≤ 9223372036854775807) (_ : l1.length ≤ cap1) :
    Gives Tryd.prog 4 #[.slice a0 l0.length cap0, .slice a1 l1.length cap1] w (.bool true) := by
  unfold Gives
  have HT := Lib.hid ht
  have B0 := Lib.hid (ByteAt.of8 H0)
  have B1 := Lib.hid (ByteAt.of8 H1)
  have R0 := Lib.hid (byte_range l0)
  have R1 := Lib.hid (byte_range l1)
  rw [show l0.length = (l0.map fun x => (x.toNat : Int)).length by simp] at hn0 ⊢
  rw [show l1.length = (l1.map fun x => (x.toNat : Int)).length by simp] at hn1 ⊢
  clear H0 H1 ht
  generalize (l0.map fun x => (x.toNat : Int)) = code at *
  generalize (l1.map fun x => (x.toNat : Int)) = more at *
  have HL := Lib.hid (r8Long_any a0 a1 code.length more.length cap0 cap1 w hn0 hn1)
  go_enter Tryd.func4, Tryd.ntmps4
  go_wp2_with fail
  refine HL.out.mono ?_
  rintro e w' ⟨b, rfl, hb, hw'⟩
  subst hw'
  clear HL
  cases b
  case true =>
    go_wp2_with fail
    go_ret
    exact ⟨rfl, Ext.refl _⟩
  obtain ⟨f0, f1⟩ := hb rfl
  clear hb
  go_wp2_with fail
  refine (R8Gate_any w' a0 cap0 code B0.out R0.out f0).mono ?_
  rintro e w1 ⟨x, rfl, hD, E1⟩
  have hx := Lib.hid (hD.ok (by kernel_rfl))
  have hcm := hD.calm
  have hho := hD.hold
  clear hD
  replace E1 := Lib.hid E1
  have hG1 := Gbox.new w1 x
  obtain ⟨bx, hbx⟩ : ∃ bx, bx = w1.heap.size := ⟨_, rfl⟩
  obtain ⟨w2, hw2⟩ : ∃ w2, w2 = w1.alloc (.cells #[.string x.id, .int .i64 x.shut, .int .i64 x.opn, .int .i64 x.hold, .bool x.shuts, .int .i64 x.calm] 31) := ⟨_, rfl⟩
  have hG2 : Hid (Gbox w2 bx x) := by show Gbox _ _ _; rw [hw2, hbx]; exact hG1
  have E2 : Hid (Ext w' w2) := by show Ext _ _; rw [hw2]; exact E1.out.alloc _
  have hbw : w'.heap.size ≤ bx := by have := E1.out.size; omega
  clear hG1
  have HZ := Lib.hid (R8Hazards_any w2 a1 cap1 more (RowsAt.ext B1.out E2.out) R1.out f1)
  go_wp2_with fail
  rw [← hw2, ← hbx]
  clear hw2 hbx E1
  refine HZ.out.mono ?_
  rintro e w3 ⟨ho, hoc, hz, rfl, hzc, hzD, hzA, E3a⟩
  have hz12 := hzD.len
  have hzall := Lib.hid hzD.all
  replace hzA := Lib.hid hzA
  have E3 := Lib.hid (E2.out.trans E3a)
  have hG3 := Lib.hid (hG2.out.ext E3a)
  clear HZ hzD E3a E2 hG2
  have hTX := Lib.hid (HT.out.ext E3.out)
  clear HT
  obtain ⟨gl, g0, g1, g2, g3, g4, g5⟩ := hG3.out.all
  have hsm := (gateB_bd hx.out).1
  have hsz : (gateS x).size ≤ 1048576 := by
    obtain ⟨b0, b1, b2, b3, b4, -⟩ := gateB_bd hx.out
    have h1 := withS_size (id := x.id) (l := [x.shut, x.opn, x.hold]) (fun k hk => by
      rcases k with _ | _ | _ | k
      · show -9223372036854775808 ≤ x.shut ∧ x.shut ≤ 9223372036854775807; omega
      · show -9223372036854775808 ≤ x.opn ∧ x.opn ≤ 9223372036854775807; omega
      · show -9223372036854775808 ≤ x.hold ∧ x.hold ≤ 9223372036854775807; omega
      · simp at hk; omega)
    have h2 := decS_size x.calm (by omega) (by omega)
    have h3 : openS.size = 5 := rfl
    have h4 : shutS.size = 6 := rfl
    have h5 : ([x.shut, x.opn, x.hold] : List Int).length = 3 := rfl
    unfold gateS
    rw [if_pos hx.out]
    split
    · rw [ByteArray.size_append, ByteArray.size_append]; omega
    · rw [ByteArray.size_append]; omega
  obtain ⟨e1, e2⟩ := readGate_some (gate_back hx.out)
  have hGT := Lib.hid (implGateText x w3 (by omega) hTX.out.tab)
  have hRG := Lib.hid fun (W : World) (he : Ext w3 W) => implReadGate_any (gateS x) W hsz (hTX.out.ext he)
  rw [e1, e2] at hRG
  clear e1 e2 hsz
  go_wp2_with fail
  refine hGT.out.mono ?_
  rintro e w4 ⟨rfl, y4, rfl⟩
  go_wp2_with fail
  refine (hRG.out _ (by repeat (first | exact Ext.refl _ | refine Ext.lift ?_ _ | refine Ext.alloc ?_ _))).mono ?_
  rintro e w5 ⟨rfl, y5, rfl⟩
  obtain ⟨W5, hW5⟩ : ∃ W5, W5 = lift (lift w3 y4) y5 := ⟨_, rfl⟩
  have hE5 : Hid (Ext w3 W5) := by show Ext _ _; rw [hW5]; exact (by repeat (first | exact Ext.refl _ | refine Ext.lift ?_ _ | refine Ext.alloc ?_ _))
  rw [← hW5]
  clear hW5 hGT hRG g0 g1 g2 g3 g4 g5 gl
  obtain ⟨W6, hW6⟩ : ∃ W6, W6 = W5.alloc (.cells #[.string x.id, .int .i64 x.shut, .int .i64 x.opn, .int .i64 x.hold, .bool x.shuts, .int .i64 x.calm] 31) := ⟨_, rfl⟩
  obtain ⟨rb, hrb⟩ : ∃ rb, rb = W5.heap.size := ⟨_, rfl⟩
  have hR6 : Hid (Gbox W6 rb x) := by show Gbox _ _ _; rw [hW6, hrb]; exact Gbox.new W5 x
  have hE6 : Hid (Ext w3 W6) := by show Ext _ _; rw [hW6]; exact hE5.out.alloc _
  have hX6 := Lib.hid (hG3.out.ext hE6.out)
  have hX5 := hG3.out.ext hE5.out
  obtain ⟨gl, g0, g1, g2, g3, g4, g5⟩ := hX5.all
  have HRun := Lib.hid fun (W : World) (he : Ext w3 W) => implRunGate_any x ho hoc hz W hx.out (RowsAt.ext hzA.out he) (by omega) hzall.out
  have HSh := Lib.hid fun (W : World) (he : Ext w3 W) => implShutHours_any x ho hoc hz W hx.out (RowsAt.ext hzA.out he) (by omega) hzall.out
  have HFs := Lib.hid fun (W : World) (he : Ext w3 W) => implFirstShut_any x ho hoc hz W hx.out (RowsAt.ext hzA.out he) (by omega) hzall.out
  clear hX5
  go_wp2_with fail
  rw [← hW6, ← hrb]
  clear hW6 hrb g0 g1 g2 g3 g4 g5 gl
  refine (HRun.out _ hE6.out).mono ?_
  rintro e W7 ⟨rb2, rfl, hBo, hE7⟩
  replace hBo := Lib.hid hBo
  replace hE7 := Lib.hid hE7
  have hX7 := hX6.out.ext hE7.out
  obtain ⟨gl, g0, g1, g2, g3, g4, g5⟩ := hX7.all
  clear hX7
  go_wp2_with fail
  refine (HSh.out _ (hE6.out.trans hE7.out)).mono ?_
  rintro e W8 ⟨rfl, y8, rfl⟩
  go_wp2_with fail
  refine (HFs.out _ ((hE6.out.trans hE7.out).lift y8)).mono ?_
  rintro e w9 ⟨rfl, y9, rfl⟩
  obtain ⟨W9, hW9⟩ : ∃ W9, W9 = lift (lift W7 y8) y9 := ⟨_, rfl⟩
  have hE9 : Hid (Ext W7 W9) := by show Ext _ _; rw [hW9]; exact (by repeat (first | exact Ext.refl _ | refine Ext.lift ?_ _ | refine Ext.alloc ?_ _))
  rw [← hW9]
  clear hW9 g0 g1 g2 g3 g4 g5 gl HRun HSh HFs
  have hX9 := Lib.hid (hX6.out.ext (hE7.out.trans hE9.out))
  have hR9 := Lib.hid (hR6.out.ext (hE7.out.trans hE9.out))
  have hB9 := Lib.hid (RowsAt.ext hBo.out hE9.out)
  have hz9 := Lib.hid (RowsAt.ext hzA.out (hE6.out.trans (hE7.out.trans hE9.out)))
  have hT9 := Lib.hid (hTX.out.ext (hE6.out.trans (hE7.out.trans hE9.out)))
  have E9 := Lib.hid (E3.out.trans (hE6.out.trans (hE7.out.trans hE9.out)))
  clear hX6 hR6 hBo hzA hTX E3 hE5 hE6 hE7 hE9 hG3
  obtain ⟨gl, g0, g1, g2, g3, g4, g5⟩ := hX9.out.all
  obtain ⟨rl, r0, r1, r2, r3, r4, r5⟩ := hR9.out.all
  have hea := early_bd x hz hz.length
  obtain ⟨EE, hEE⟩ : ∃ EE, EE = earlyG x hz hz.length := ⟨_, rfl⟩
  rw [← hEE]
  obtain ⟨ca, hca⟩ : ∃ ca : Int, ca = (if 0 ≤ EE then EE else 0) := ⟨_, rfl⟩
  obtain ⟨cb, hcb⟩ : ∃ cb : Int, cb = (if 0 ≤ EE then 0 else 3) := ⟨_, rfl⟩
  rw [← hca, ← hcb]
  replace hca := Lib.hid hca
  replace hcb := Lib.hid hcb
  replace hEE := Lib.hid hEE
  have hk0 := gAt_keeps x hz
  have hN0 := Gbox.new W9 x
  have hxe := (Ext.refl W9).alloc (.cells #[.string x.id, .int .i64 x.shut, .int .i64 x.opn, .int .i64 x.hold, .bool x.shuts, .int .i64 x.calm] 31)
  go_wp2_with fail
  obtain ⟨W0, hW0⟩ : ∃ W0, W0 = W9.alloc (.cells #[.string x.id, .int .i64 x.shut, .int .i64 x.opn, .int .i64 x.hold, .bool x.shuts, .int .i64 x.calm] 31) := ⟨_, rfl⟩
  obtain ⟨nb, hnb⟩ : ∃ nb, nb = W9.heap.size := ⟨_, rfl⟩
  rw [← hW0, ← hnb]
  rw [← hW0] at hN0 hxe
  rw [← hnb] at hN0
  have hN1 := Lib.hid hN0
  have hxe1 := Lib.hid hxe
  have hnw : W9.heap.size ≤ nb := by omega
  clear hW0 hnb hN0 hxe g0 g1 g2 g3 g4 g5 gl r0 r1 r2 r3 r4 r5 rl
  go_loopw [17, 18, 19, 20] (fun q1 q2 q3 i wr => ∃ k : Nat, k ≤ hz.length ∧ i = .int .i64 k ∧ q1 = .int .i64 (hoursG x hz k) ∧ q2 = .int .i64 (timesG x hz k) ∧ q3 = .int .i64 (earlyG x hz k) ∧ Hid (Gbox wr nb (gAt x hz k)) ∧ Hid (Ext W9 wr)) (fun _ _ _ i _ => hz.length - (intOf i).toNat)
  case atStart => exact ⟨0, Nat.zero_le _, rfl, rfl, rfl, rfl, hN1.out, hxe1.out⟩
  case round =>
    clear hN1 hxe1
    obtain ⟨k, hk, rfl, rfl, rfl, rfl, hN, hE⟩ := hrel
    by_cases hlt : k < hz.length
    · have hzk := inB_iff.1 (allIn_iff.1 hzall.out k hlt)
      have hnk := gAt_ok hx.out hz k
      have hkp := hk0 k
      have hkp1 := hk0 (k + 1)
      have hb64 : hz.length ≤ 12 := by omega
      have hob := hours_bd x hz k
      have htb := times_bd x hz k
      have heb := early_bd x hz k
      have hho1 : Hid (hoursG x hz (k + 1) = hoursG x hz k + if (gAt x hz (k + 1)).shuts = true then 1 else 0) := rfl
      have hti1 : Hid (timesG x hz (k + 1) = timesG x hz k + if (gAt x hz (k + 1)).shuts = true ∧ (gAt x hz k).shuts = false then 1 else 0) := rfl
      have hea1 : Hid (earlyG x hz (k + 1) = if earlyG x hz k < 0 ∧ (gAt x hz (k + 1)).shuts = true then (k : Int) else earlyG x hz k) := rfl
      have hst1 : gAt x hz (k + 1) = stepG (gAt x hz k) (nth hz k) := rfl
      have hrun := bools_at x hz hlt
      obtain ⟨b1, o1, rfl⟩ := hz9.out.base hlt
      obtain ⟨hb1, c0⟩ := IntAt.at (hz9.out.ext hE.out) k hlt
      have hB := BoolAt.at (hB9.out.ext hE.out) k (by rw [bools_len]; exact hlt)
      rw [hrun] at hB
      obtain ⟨hb2, d0⟩ := hB
      have HS := Lib.hid fun (W : World) => implStepGate_any (gAt x hz k) (nth hz k) W hnk hzk.1 hzk.2
      have HL := Lib.hid fun (W : World) => implHoursToOpen_any (gAt x hz k) W hnk
      have hS1 : Hid ((gAt x hz k).shuts = false → (gAt x hz (k + 1)).shuts = decide (x.shut ≤ nth hz k)) := fun h => by rw [hst1, stepG_open h, hkp.2.1]
      have hcal := (gateB_bd hnk).2.2.2.2.1
      have hS2 : Hid ((gAt x hz k).shuts = true → (gAt x hz (k + 1)).shuts = !(decide (leftG (gAt x hz k) = 1) && decide (nth hz k < x.opn))) := fun h => by rw [hst1, stepG_shut h (by omega), hkp.2.2.1]
      have hS3 : Hid ((leftG (gAt x hz k) == 0) = !(gAt x hz k).shuts) := leftG_zero (by omega)
      have hN2 := Lib.hid hN.out
      have hEw := hE.out.size
      obtain ⟨lf, hlf⟩ : ∃ lf, lf = leftG (gAt x hz k) := ⟨_, rfl⟩
      rw [← hst1] at HS
      rw [← hlf] at HL hS2 hS3
      obtain ⟨sg, hsg⟩ : ∃ sg, sg = gAt x hz (k + 1) := ⟨_, rfl⟩
      rw [← hsg] at HS hS1 hS2 hho1 hti1 hea1 hkp1 d0
      obtain ⟨gg, hgg⟩ : ∃ gg, gg = gAt x hz k := ⟨_, rfl⟩
      rw [← hgg] at HS HL hS1 hS2 hS3 hN2 hti1
      obtain ⟨zz, hzz⟩ : ∃ zz, zz = nth hz k := ⟨_, rfl⟩
      rw [← hzz] at HS hS1 hS2 c0
      obtain ⟨ho1, hho⟩ : ∃ ho1, ho1 = hoursG x hz k := ⟨_, rfl⟩
      obtain ⟨ti1, hti⟩ : ∃ ti1, ti1 = timesG x hz k := ⟨_, rfl⟩
      obtain ⟨ea1, hea⟩ : ∃ ea1, ea1 = earlyG x hz k := ⟨_, rfl⟩
      rw [← hho] at hho1 hob ⊢
      rw [← hti] at hti1 htb ⊢
      rw [← hea] at hea1 heb ⊢
      have hsgh := Lib.hid hsg
      have hzq := Lib.hid hzz
      have hkq := Lib.hid hkp1
      clear hlf hsg hgg hzz hho hti hea hst1 hkp hkp1 hcal hnk hzk hN hrun
      obtain ⟨nl, n0, n1, n2, n3, n4, n5⟩ := hN2.out.all
      go_wp2_with fail
      apply by_key
      case h =>
        intro key
        go_region_law (refine step_call rfl 16 #[.agg #[.string gg.id, .int .i64 gg.shut, .int .i64 gg.opn, .int .i64 gg.hold, .bool gg.shuts, .int .i64 gg.calm], .int .i64 zz] (by first | rfl | (go_simp; done) | (go_simp; rfl)) ?_; refine (HS.out _).mono ?_; rintro e W5 ⟨rfl, e5⟩; refine ⟨_, rfl, ?_⟩; replace e5 := Lib.hid e5; try (have BB : Blk W5 wr.heap.size 31 6 := (Blk.new _ _ _).ext e5.out; have bl := BB.lt; have f0 := BB.frozen 0; have f1 := BB.frozen 1; have f2 := BB.frozen 2; have f3 := BB.frozen 3; have f4 := BB.frozen 4; have f5 := BB.frozen 5; obtain ⟨z0, y0⟩ := BB.cell (o := 0) (by decide); obtain ⟨z1, y1⟩ := BB.cell (o := 1) (by decide); obtain ⟨z2, y2⟩ := BB.cell (o := 2) (by decide); obtain ⟨z3, y3⟩ := BB.cell (o := 3) (by decide); obtain ⟨z4, y4⟩ := BB.cell (o := 4) (by decide); obtain ⟨z5, y5⟩ := BB.cell (o := 5) (by decide)))
        all_goals first
          | (obtain ⟨b2, hb2⟩ : ∃ b2, b2 = W5.heap.size := ⟨_, rfl⟩
             obtain ⟨W6, hW6⟩ : ∃ W6, W6 = W5.alloc (.cells #[.string sg.id, .int .i64 sg.shut, .int .i64 sg.opn, .int .i64 sg.hold, .bool sg.shuts, .int .i64 sg.calm] 31) := ⟨_, rfl⟩
             rw [← hW6, ← hb2]
             have hG6 : Hid (Gbox W6 b2 sg) := by show Gbox _ _ _; rw [hW6, hb2]; exact Gbox.new W5 sg
             have hE6 : Hid (Ext wr W6) := by show Ext _ _; rw [hW6]; exact (Ext.trans ((Ext.refl wr).drew) e5.out).alloc _
             have hb6 : wr.heap.size ≤ b2 := by rw [hb2]; exact (Ext.trans ((Ext.refl wr).drew) e5.out).size
             clear hW6 hb2 e5 W5
             revert W6 b2 hG6 hE6 hb6
             exact key)
          | (obtain ⟨b2, hb2⟩ : ∃ b2, b2 = wr.heap.size := ⟨_, rfl⟩
             obtain ⟨W6, hW6⟩ : ∃ W6, W6 = (((((W5.setCell ⟨wr.heap.size, 0, none⟩ (.string sg.id)).setCell ⟨wr.heap.size, 1, none⟩ (.int .i64 sg.shut)).setCell ⟨wr.heap.size, 2, none⟩ (.int .i64 sg.opn)).setCell ⟨wr.heap.size, 3, none⟩ (.int .i64 sg.hold)).setCell ⟨wr.heap.size, 4, none⟩ (.bool sg.shuts)).setCell ⟨wr.heap.size, 5, none⟩ (.int .i64 sg.calm) := ⟨_, rfl⟩
             rw [← hW6, ← hb2]
             have hG6 : Hid (Gbox W6 b2 sg) := by show Gbox _ _ _; rw [hW6, hb2]; exact Gbox.put BB sg
             have hE6 : Hid (Ext wr W6) := by show Ext _ _; rw [hW6]; exact ext_setCells (g := wr.heap.size) (Nat.le_refl _) (gvs sg) 0 W5 ((((Ext.refl wr).alloc _).drew).trans e5.out)
             have hb6 : wr.heap.size ≤ b2 := by omega
             clear hW6 hb2 e5 BB bl f0 f1 f2 f3 f4 f5 y0 y1 y2 y3 y4 y5 z0 z1 z2 z3 z4 z5 W5
             revert W6 b2 hG6 hE6 hb6
             exact key)
      case k =>
        intro b2 W6 hG6 hE6 hb6
        have hN6 := Lib.hid (hN2.out.ext hE6.out)
        clear n0 n1 n2 n3 n4 n5 nl c0 d0 hb1 hb2 HS
        obtain ⟨nl, n0, n1, n2, n3, n4, n5⟩ := hN6.out.all
        go_wp2_with fail
        refine (HL.out _).mono ?_
        rintro e W7' ⟨rfl, hE7⟩
        have hN7 := Lib.hid (hN6.out.ext hE7)
        have hG7 := Lib.hid (hG6.out.ext hE7)
        have hE7 := Lib.hid (hE6.out.trans hE7)
        clear n0 n1 n2 n3 n4 n5 nl hN6 hG6 hE6 HL
        have hE9 := Lib.hid (hE.out.trans hE7.out)
        obtain ⟨nl, n0, n1, n2, n3, n4, n5⟩ := hN7.out.all
        obtain ⟨sl, s0, s1, s2, s3, s4, s5⟩ := hG7.out.all
        obtain ⟨xl, x0, x1, x2, x3, x4, x5⟩ := (hX9.out.ext hE9.out).all
        obtain ⟨hb1, c0⟩ := IntAt.at (hz9.out.ext hE9.out) k hlt
        rw [← hzq.out] at c0
        have hB := BoolAt.at (hB9.out.ext hE9.out) k (by rw [bools_len]; exact hlt)
        rw [bools_at x hz hlt, ← hsgh.out] at hB
        obtain ⟨hb2, d0⟩ := hB
        rw [Nat.zero_add] at d0
        rw [hkq.out.2.1] at s1
        rw [hkq.out.2.2.1] at s2
        rw [hkq.out.2.2.2] at s3
        have nf0 := hN7.out.blk.frozen 0
        have nf1 := hN7.out.blk.frozen 1
        have nf2 := hN7.out.blk.frozen 2
        have nf3 := hN7.out.blk.frozen 3
        have nf4 := hN7.out.blk.frozen 4
        have nf5 := hN7.out.blk.frozen 5
        clear x0 x4 x5
        go_wp2_with fail
        cases hgs : gg.shuts
        · have hsv := hS1.out hgs
          have hl3 := hS3.out
          rw [hgs] at n4 hti1 hl3
          have hlz : lf = 0 := by simpa using hl3
          subst hlz
          clear hl3 hgs hS1 hS2 hS3
          by_cases hc : x.shut ≤ zz
          · rw [decide_eq_true hc] at hsv
            have hcd : decide (x.shut ≤ zz) = true := decide_eq_true hc
            rw [hsv] at s4 d0 hho1 hti1 hea1
            replace hsv := Lib.hid hsv
            by_cases he : ea1 < 0
            · have hne : Hid (earlyG x hz (k + 1) = (k : Int)) := hea1.out.trans (if_pos ⟨he, rfl⟩)
              refine region_quiet (by kernel_rfl) (by kernel_rfl) ?_
              repeat (any_goals (first | go_big_quiet_step ((fail)) | quiet_step ((fail))))
              refine wpQuiet_nil ?_
              intro _ hw'
              obtain ⟨y, hw''⟩ := hw'
              subst hw''
              go_wp2_with fail
              refine region_quiet (by kernel_rfl) (by kernel_rfl) ?_
              repeat (any_goals (first | go_big_quiet_step ((fail)) | quiet_step ((fail))))
              refine wpQuiet_nil ?_
              intro _ hw'
              obtain ⟨y, hw''⟩ := hw'
              subst hw''
              go_wp2_with fail
              go_roundw
              case rel => exact ⟨k + 1, by omega, by go_num, by rw [hho1.out]; simp, by rw [hti1.out]; simp, by rw [hne.out], by rw [← hsgh.out]; exact Gbox.put' (hN7.out.blk.ext (by repeat (first | exact Ext.refl _ | refine Ext.lift ?_ _ | refine Ext.alloc ?_ _))) [.string sg.id, .int .i64 x.shut, .int .i64 x.opn, .int .i64 x.hold, .bool true, .int .i64 sg.calm] (by show _ = gvs sg; unfold gvs; rw [hkq.out.2.1, hkq.out.2.2.1, hkq.out.2.2.2, hsv.out]), ext_setCells (g := nb) hnw [.string sg.id, .int .i64 x.shut, .int .i64 x.opn, .int .i64 x.hold, .bool true, .int .i64 sg.calm] 0 _ (hE9.out.trans (by repeat (first | exact Ext.refl _ | refine Ext.lift ?_ _ | refine Ext.alloc ?_ _)))⟩
              case measure => simp [intOf]; omega
            · have hne : Hid (earlyG x hz (k + 1) = ea1) := hea1.out.trans (if_neg fun h => he h.1)
              refine region_quiet (by kernel_rfl) (by kernel_rfl) ?_
              repeat (any_goals (first | go_big_quiet_step ((fail)) | quiet_step ((fail))))
              refine wpQuiet_nil ?_
              intro _ hw'
              obtain ⟨y, hw''⟩ := hw'
              subst hw''
              go_wp2_with fail
              refine region_quiet (by kernel_rfl) (by kernel_rfl) ?_
              repeat (any_goals (first | go_big_quiet_step ((fail)) | quiet_step ((fail))))
              refine wpQuiet_nil ?_
              intro _ hw'
              obtain ⟨y, hw''⟩ := hw'
              subst hw''
              go_wp2_with fail
              go_roundw
              case rel => exact ⟨k + 1, by omega, by go_num, by rw [hho1.out]; simp, by rw [hti1.out]; simp, by rw [hne.out], by rw [← hsgh.out]; exact Gbox.put' (hN7.out.blk.ext (by repeat (first | exact Ext.refl _ | refine Ext.lift ?_ _ | refine Ext.alloc ?_ _))) [.string sg.id, .int .i64 x.shut, .int .i64 x.opn, .int .i64 x.hold, .bool true, .int .i64 sg.calm] (by show _ = gvs sg; unfold gvs; rw [hkq.out.2.1, hkq.out.2.2.1, hkq.out.2.2.2, hsv.out]), ext_setCells (g := nb) hnw [.string sg.id, .int .i64 x.shut, .int .i64 x.opn, .int .i64 x.hold, .bool true, .int .i64 sg.calm] 0 _ (hE9.out.trans (by repeat (first | exact Ext.refl _ | refine Ext.lift ?_ _ | refine Ext.alloc ?_ _)))⟩
              case measure => simp [intOf]; omega
          · rw [decide_eq_false hc] at hsv
            have hcd : decide (x.shut ≤ zz) = false := decide_eq_false hc
            rw [hsv] at s4 d0 hho1 hti1 hea1
            replace hsv := Lib.hid hsv
            have hne : Hid (earlyG x hz (k + 1) = ea1) := hea1.out.trans (if_neg fun h => by cases h.2)
            refine region_quiet (by kernel_rfl) (by kernel_rfl) ?_
            repeat (any_goals (first | go_big_quiet_step ((fail)) | quiet_step ((fail))))
            refine wpQuiet_nil ?_
            intro _ hw'
            obtain ⟨y, hw''⟩ := hw'
            subst hw''
            go_wp2_with fail
            refine region_quiet (by kernel_rfl) (by kernel_rfl) ?_
            repeat (any_goals (first | go_big_quiet_step ((fail)) | quiet_step ((fail))))
            refine wpQuiet_nil ?_
            intro _ hw'
            obtain ⟨y, hw''⟩ := hw'
            subst hw''
            go_wp2_with fail
            go_roundw
            case rel => exact ⟨k + 1, by omega, by go_num, by rw [hho1.out]; simp, by rw [hti1.out]; simp, by rw [hne.out], by rw [← hsgh.out]; exact Gbox.put' (hN7.out.blk.ext (by repeat (first | exact Ext.refl _ | refine Ext.lift ?_ _ | refine Ext.alloc ?_ _))) [.string sg.id, .int .i64 x.shut, .int .i64 x.opn, .int .i64 x.hold, .bool false, .int .i64 sg.calm] (by show _ = gvs sg; unfold gvs; rw [hkq.out.2.1, hkq.out.2.2.1, hkq.out.2.2.2, hsv.out]), ext_setCells (g := nb) hnw [.string sg.id, .int .i64 x.shut, .int .i64 x.opn, .int .i64 x.hold, .bool false, .int .i64 sg.calm] 0 _ (hE9.out.trans (by repeat (first | exact Ext.refl _ | refine Ext.lift ?_ _ | refine Ext.alloc ?_ _)))⟩
            case measure => simp [intOf]; omega
        · have hsv := hS2.out hgs
          have hl3 := hS3.out
          rw [hgs] at n4 hti1 hl3
          clear hgs hS1 hS2 hS3
          replace hl3 : (lf == 0) = false := hl3
          by_cases h1 : lf = 1
          · rw [decide_eq_true h1, Bool.true_and] at hsv
            subst h1
            clear hl3
            by_cases hc : zz < x.opn
            · rw [decide_eq_true hc] at hsv
              have hcd : decide (zz < x.opn) = true := decide_eq_true hc
              rw [show (!true) = false from rfl] at hsv
              rw [hsv] at s4 d0 hho1 hti1 hea1
              replace hsv := Lib.hid hsv
              have hne : Hid (earlyG x hz (k + 1) = ea1) := hea1.out.trans (if_neg fun h => by cases h.2)
              refine region_quiet (by kernel_rfl) (by kernel_rfl) ?_
              repeat (any_goals (first | go_big_quiet_step ((fail)) | quiet_step ((fail))))
              refine wpQuiet_nil ?_
              intro _ hw'
              obtain ⟨y, hw''⟩ := hw'
              subst hw''
              go_wp2_with fail
              refine region_quiet (by kernel_rfl) (by kernel_rfl) ?_
              repeat (any_goals (first | go_big_quiet_step ((fail)) | quiet_step ((fail))))
              refine wpQuiet_nil ?_
              intro _ hw'
              obtain ⟨y, hw''⟩ := hw'
              subst hw''
              go_wp2_with fail
              go_roundw
              case rel => exact ⟨k + 1, by omega, by go_num, by rw [hho1.out]; simp, by rw [hti1.out]; simp, by rw [hne.out], by rw [← hsgh.out]; exact Gbox.put' (hN7.out.blk.ext (by repeat (first | exact Ext.refl _ | refine Ext.lift ?_ _ | refine Ext.alloc ?_ _))) [.string sg.id, .int .i64 x.shut, .int .i64 x.opn, .int .i64 x.hold, .bool false, .int .i64 sg.calm] (by show _ = gvs sg; unfold gvs; rw [hkq.out.2.1, hkq.out.2.2.1, hkq.out.2.2.2, hsv.out]), ext_setCells (g := nb) hnw [.string sg.id, .int .i64 x.shut, .int .i64 x.opn, .int .i64 x.hold, .bool false, .int .i64 sg.calm] 0 _ (hE9.out.trans (by repeat (first | exact Ext.refl _ | refine Ext.lift ?_ _ | refine Ext.alloc ?_ _)))⟩
              case measure => simp [intOf]; omega
            · rw [decide_eq_false hc] at hsv
              have hcd : decide (zz < x.opn) = false := decide_eq_false hc
              rw [show (!false) = true from rfl] at hsv
              rw [hsv] at s4 d0 hho1 hti1 hea1
              replace hsv := Lib.hid hsv
              by_cases he : ea1 < 0
              · have hne : Hid (earlyG x hz (k + 1) = (k : Int)) := hea1.out.trans (if_pos ⟨he, rfl⟩)
                refine region_quiet (by kernel_rfl) (by kernel_rfl) ?_
                repeat (any_goals (first | go_big_quiet_step ((fail)) | quiet_step ((fail))))
                refine wpQuiet_nil ?_
                intro _ hw'
                obtain ⟨y, hw''⟩ := hw'
                subst hw''
                go_wp2_with fail
                refine region_quiet (by kernel_rfl) (by kernel_rfl) ?_
                repeat (any_goals (first | go_big_quiet_step ((fail)) | quiet_step ((fail))))
                refine wpQuiet_nil ?_
                intro _ hw'
                obtain ⟨y, hw''⟩ := hw'
                subst hw''
                go_wp2_with fail
                go_roundw
                case rel => exact ⟨k + 1, by omega, by go_num, by rw [hho1.out]; simp, by rw [hti1.out]; simp, by rw [hne.out], by rw [← hsgh.out]; exact Gbox.put' (hN7.out.blk.ext (by repeat (first | exact Ext.refl _ | refine Ext.lift ?_ _ | refine Ext.alloc ?_ _))) [.string sg.id, .int .i64 x.shut, .int .i64 x.opn, .int .i64 x.hold, .bool true, .int .i64 sg.calm] (by show _ = gvs sg; unfold gvs; rw [hkq.out.2.1, hkq.out.2.2.1, hkq.out.2.2.2, hsv.out]), ext_setCells (g := nb) hnw [.string sg.id, .int .i64 x.shut, .int .i64 x.opn, .int .i64 x.hold, .bool true, .int .i64 sg.calm] 0 _ (hE9.out.trans (by repeat (first | exact Ext.refl _ | refine Ext.lift ?_ _ | refine Ext.alloc ?_ _)))⟩
                case measure => simp [intOf]; omega
              · have hne : Hid (earlyG x hz (k + 1) = ea1) := hea1.out.trans (if_neg fun h => he h.1)
                refine region_quiet (by kernel_rfl) (by kernel_rfl) ?_
                repeat (any_goals (first | go_big_quiet_step ((fail)) | quiet_step ((fail))))
                refine wpQuiet_nil ?_
                intro _ hw'
                obtain ⟨y, hw''⟩ := hw'
                subst hw''
                go_wp2_with fail
                refine region_quiet (by kernel_rfl) (by kernel_rfl) ?_
                repeat (any_goals (first | go_big_quiet_step ((fail)) | quiet_step ((fail))))
                refine wpQuiet_nil ?_
                intro _ hw'
                obtain ⟨y, hw''⟩ := hw'
                subst hw''
                go_wp2_with fail
                go_roundw
                case rel => exact ⟨k + 1, by omega, by go_num, by rw [hho1.out]; simp, by rw [hti1.out]; simp, by rw [hne.out], by rw [← hsgh.out]; exact Gbox.put' (hN7.out.blk.ext (by repeat (first | exact Ext.refl _ | refine Ext.lift ?_ _ | refine Ext.alloc ?_ _))) [.string sg.id, .int .i64 x.shut, .int .i64 x.opn, .int .i64 x.hold, .bool true, .int .i64 sg.calm] (by show _ = gvs sg; unfold gvs; rw [hkq.out.2.1, hkq.out.2.2.1, hkq.out.2.2.2, hsv.out]), ext_setCells (g := nb) hnw [.string sg.id, .int .i64 x.shut, .int .i64 x.opn, .int .i64 x.hold, .bool true, .int .i64 sg.calm] 0 _ (hE9.out.trans (by repeat (first | exact Ext.refl _ | refine Ext.lift ?_ _ | refine Ext.alloc ?_ _)))⟩
                case measure => simp [intOf]; omega
          · rw [decide_eq_false h1, Bool.false_and] at hsv
            have h1d : (lf == 1) = false := by simpa using h1
            rw [show (!false) = true from rfl] at hsv
            rw [hsv] at s4 d0 hho1 hti1 hea1
            replace hsv := Lib.hid hsv
            clear h1
            by_cases he : ea1 < 0
            · have hne : Hid (earlyG x hz (k + 1) = (k : Int)) := hea1.out.trans (if_pos ⟨he, rfl⟩)
              refine region_quiet (by kernel_rfl) (by kernel_rfl) ?_
              repeat (any_goals (first | go_big_quiet_step ((fail)) | quiet_step ((fail))))
              refine wpQuiet_nil ?_
              intro _ hw'
              obtain ⟨y, hw''⟩ := hw'
              subst hw''
              go_wp2_with fail
              refine region_quiet (by kernel_rfl) (by kernel_rfl) ?_
              repeat (any_goals (first | go_big_quiet_step ((fail)) | quiet_step ((fail))))
              refine wpQuiet_nil ?_
              intro _ hw'
              obtain ⟨y, hw''⟩ := hw'
              subst hw''
              go_wp2_with fail
              go_roundw
              case rel => exact ⟨k + 1, by omega, by go_num, by rw [hho1.out]; simp, by rw [hti1.out]; simp, by rw [hne.out], by rw [← hsgh.out]; exact Gbox.put' (hN7.out.blk.ext (by repeat (first | exact Ext.refl _ | refine Ext.lift ?_ _ | refine Ext.alloc ?_ _))) [.string sg.id, .int .i64 x.shut, .int .i64 x.opn, .int .i64 x.hold, .bool true, .int .i64 sg.calm] (by show _ = gvs sg; unfold gvs; rw [hkq.out.2.1, hkq.out.2.2.1, hkq.out.2.2.2, hsv.out]), ext_setCells (g := nb) hnw [.string sg.id, .int .i64 x.shut, .int .i64 x.opn, .int .i64 x.hold, .bool true, .int .i64 sg.calm] 0 _ (hE9.out.trans (by repeat (first | exact Ext.refl _ | refine Ext.lift ?_ _ | refine Ext.alloc ?_ _)))⟩
              case measure => simp [intOf]; omega
            · have hne : Hid (earlyG x hz (k + 1) = ea1) := hea1.out.trans (if_neg fun h => he h.1)
              refine region_quiet (by kernel_rfl) (by kernel_rfl) ?_
              repeat (any_goals (first | go_big_quiet_step ((fail)) | quiet_step ((fail))))
              refine wpQuiet_nil ?_
              intro _ hw'
              obtain ⟨y, hw''⟩ := hw'
              subst hw''
              go_wp2_with fail
              refine region_quiet (by kernel_rfl) (by kernel_rfl) ?_
              repeat (any_goals (first | go_big_quiet_step ((fail)) | quiet_step ((fail))))
              refine wpQuiet_nil ?_
              intro _ hw'
              obtain ⟨y, hw''⟩ := hw'
              subst hw''
              go_wp2_with fail
              go_roundw
              case rel => exact ⟨k + 1, by omega, by go_num, by rw [hho1.out]; simp, by rw [hti1.out]; simp, by rw [hne.out], by rw [← hsgh.out]; exact Gbox.put' (hN7.out.blk.ext (by repeat (first | exact Ext.refl _ | refine Ext.lift ?_ _ | refine Ext.alloc ?_ _))) [.string sg.id, .int .i64 x.shut, .int .i64 x.opn, .int .i64 x.hold, .bool true, .int .i64 sg.calm] (by show _ = gvs sg; unfold gvs; rw [hkq.out.2.1, hkq.out.2.2.1, hkq.out.2.2.2, hsv.out]), ext_setCells (g := nb) hnw [.string sg.id, .int .i64 x.shut, .int .i64 x.opn, .int .i64 x.hold, .bool true, .int .i64 sg.calm] 0 _ (hE9.out.trans (by repeat (first | exact Ext.refl _ | refine Ext.lift ?_ _ | refine Ext.alloc ?_ _)))⟩
              case measure => simp [intOf]; omega
    · obtain rfl : k = hz.length := by omega
      clear hN hk0
      rw [← hEE.out]
      rw [← hEE.out] at hea
      by_cases h0 : 0 ≤ EE
      · have e1 := hca.out
        have e2 := hcb.out
        rw [if_pos h0] at e1 e2
        subst e1
        subst e2
        clear hca hcb hEE
        go_wp2_with fail
        go_ret
        exact ⟨rfl, E9.out.trans hE.out⟩
      · have e1 := hca.out
        have e2 := hcb.out
        rw [if_neg h0] at e1 e2
        subst e1
        subst e2
        clear hca hcb hEE
        go_wp2_with fail
        go_ret
        exact ⟨rfl, E9.out.trans hE.out⟩
open Go.ChangeShapes Go.WideShapes Go.ChangeAt
open Go.ChangeMaps (open_string shut_string)
namespace lawFnGates
set_option maxRecDepth 100000 in
theorem contract (H : Type) (enc : TypeId × Value → H) (W : World) (base : Nat) (args : Array Value) (ds gs : List (DataW H)) (before : List MemPlace)
    (hval : ∀ (j : Nat) t v, Tryd.f4.params[j]? = some t → args[j]? = some v → Value.okWide Tryd.prog W .any base t v)
    (hW : DataW.Whole enc Tryd.prog Tryd.f4.params.toList Rows.fnGatesSpec.vars false W args.toList ds gs before) (hL : laidMetH Tryd.prog Rows.fnGatesRow.laid W) (hS : W.ShapedOpen Tryd.prog) :
    Calls Tryd.prog 4 args W fun e W' => ∃ v, e = .returned v ∧ Rows.fnGatesSpec.post enc Tryd.prog Tryd.f4 false true false false W args v W' := by
  have ht : RTab W := rtab_of (by kernel_rfl) hL hS rfl (by simp [Rows.fnGatesRow]) (by simp [Rows.fnGatesRow])
  have hW' := hW
  obtain ⟨p, q, hA0, hV, rfl, hfz, hnd⟩ := hW
  have hA : DataW.TrodAll enc Tryd.prog W 0 (fun _ => true) true Tryd.f4.params.toList args.toList ds p := hA0
  rw [Tryd.params4] at hA hval
  obtain ⟨v0, vs0, d0, ds0, p0, q0, hargs, rfl, rfl, h0, r0⟩ := trodAll_cons hA
  obtain ⟨v1, vs1, d1, ds1, p1, q1, rfl, rfl, rfl, h1, r1⟩ := trodAll_cons r0
  obtain ⟨rfl, rfl, rfl⟩ := trodAll_nil r1
  obtain rfl : args = #[v0, v1] := by cases args; simp_all
  obtain ⟨rfl, rfl⟩ := trodVars_none hV
  have k0 := h0
  have lt0 : ∀ x ∈ p0, x.block < W.heap.size := by obtain ⟨m, hm⟩ := k0; exact DataW.trod_lt m _ _ _ hm
  obtain ⟨a0, len0, cap0, rfl⟩ := okWide_slice Tryd.underlying28 (hval 0 28 v0 rfl rfl)
  obtain ⟨fuel0, hf0⟩ := h0
  obtain ⟨b0, c0, l0, e0, hl0, hc0, H0, Q0⟩ := open_rows (fun (x : UInt8) (_ : Nat) => Value.int .u8 x.toNat) (fun _ => True) Tryd.underlying28 (by kernel_rfl : Tryd.prog.cellsOf 5 = 1) (by decide) (fun _ _ _ => byte_el) hf0
  simp only [Value.cells, List.cons.injEq, Value.slice.injEq, and_true] at e0
  obtain ⟨rfl, rfl, rfl⟩ := e0
  have k1 := h1
  have lt1 : ∀ x ∈ p1, x.block < W.heap.size := by obtain ⟨m, hm⟩ := k1; exact DataW.trod_lt m _ _ _ hm
  obtain ⟨a1, len1, cap1, rfl⟩ := okWide_slice Tryd.underlying28 (hval 1 28 v1 rfl rfl)
  obtain ⟨fuel1, hf1⟩ := h1
  obtain ⟨b1, c1, l1, e1, hl1, hc1, H1, Q1⟩ := open_rows (fun (x : UInt8) (_ : Nat) => Value.int .u8 x.toNat) (fun _ => True) Tryd.underlying28 (by kernel_rfl : Tryd.prog.cellsOf 5 = 1) (by decide) (fun _ _ _ => byte_el) hf1
  simp only [Value.cells, List.cons.injEq, Value.slice.injEq, and_true] at e1
  obtain ⟨rfl, rfl, rfl⟩ := e1
  clear hA0
  refine (gates_law W ht a0 cap0 l0 H0 Q0 (by omega) hl0 a1 cap1 l1 H1 Q1 (by omega) hl1).mono fun e W' ⟨he, bx⟩ => ?_
  have bel := bx.below
  subst he
  exact ⟨_, rfl, _, _, _, [], _, [], hW', trodAll_mk1 (shut_bool Tryd.underlying4 _), (trodAll_cons_mk (Below.trod laidOut (by kernel_rfl) (of_decide_eq_true (by kernel_rfl)) k0 bel lt0) (trodAll_cons_mk (Below.trod laidOut (by kernel_rfl) (of_decide_eq_true (by kernel_rfl)) k1 bel lt1) trodAll_mk0)), rfl, bel.frame _, fun h => by cases h⟩
theorem reads (os : Os) {H : Type} (enc : TypeId × Value → H) : ∃ places, DataW.whole enc Tryd.prog ((World.laidAll Tryd.prog os Rows.fnGatesRow.laid).forCall (fun _ _ => 0) ⟨#[], #[.slice none 0 0, .slice none 0 0], []⟩).memory Tryd.f4.params.toList Rows.fnGatesSpec.vars false (#[.slice none 0 0, .slice none 0 0] : Array Value).toList 8 = some ([.nil, .nil], [], places) :=
  ⟨[], by kernel_rfl⟩
set_option maxRecDepth 100000 in
theorem lifted (os : Os) (started : os.Started) (H : Type) (enc : TypeId × Value → H) (F : Stop.Interp) :
    ReturnsInHanded {} Tryd.checked os 4 .any ((OpenSpec.ofChange Rows.fnGatesSpec).preRow enc Tryd.prog Tryd.f4 Rows.fnGatesRow.domain false Rows.fnGatesRow.laid) (((OpenSpec.ofChange Rows.fnGatesSpec).at F).post enc Tryd.prog Tryd.f4 false true false false) := by
  obtain ⟨places, hx⟩ := reads os enc
  refine returnsInHanded_of_row (C := Tryd.checked) (s := OpenSpec.ofChange Rows.fnGatesSpec) own started (by kernel_rfl) Tryd.func4
    (witness_row_at (enc := enc) (C := Tryd.checked) false (World.laidAll Tryd.prog os Rows.fnGatesRow.laid) #[.slice none 0 0, .slice none 0 0] (World.laidAll_os _ _ _) (by kernel_rfl) (by kernel_rfl) (by kernel_rfl)
      (OpenSpec.preRow_of_cond 8 hx (by kernel_rfl) (fun k hk => by cases hk) (by kernel_rfl) (laidMet_laidAll _ (by kernel_rfl) (by kernel_rfl)))) ?_
  intro W base args ds gs before hval hW _ _ _ hL hS _
  exact contract H enc W base args ds gs before hval hW hL hS
theorem said : Rows.FnGatesSaid :=
  OpenClaim.holds_of_cond 4 Tryd.f4 rfl rfl rfl rfl rfl rfl rfl ⟨rfl, rfl, rfl, rfl, rfl⟩ rfl rfl rfl rfl rfl (by kernel_rfl) Tryd.func4 (by kernel_rfl)
    (of_decide_eq_true (by kernel_rfl)) (by unfold Func.isWrapper; first | (rw [if_pos (by decide +kernel)]; kernel_rfl) | (rw [if_neg (by decide +kernel)]; exact ⟨rfl, rfl⟩))
    (fun os started H enc _ F => by rw [OpenClaim.pre_eq_preRow]; exact lifted os started H enc F)
theorem plain (f : FuncId) (fn : Func) (hf : Tryd.pinned.checked.prog.funcNamed Rows.fnGatesRow.func = some f) (hfn : Tryd.pinned.checked.prog.funcs[f]? = some fn) :
    true = Tryd.pinned.checked.prog.looks [] ∧ ∀ (j : Nat) t, fn.params[j]? = some t → Tryd.pinned.checked.prog.wantsStandIn t = false := by
  obtain rfl : f = 4 := Option.some.inj ((show Tryd.prog.funcNamed Rows.fnGatesRow.func = some 4 by kernel_rfl).symm.trans hf) |>.symm
  obtain rfl : fn = Tryd.f4 := (Option.some.inj (Tryd.func4.symm.trans hfn)).symm
  refine ⟨by kernel_rfl, fun j t ht => ?_⟩
  rw [Tryd.params4] at ht
  have hm := Array.mem_of_getElem? ht
  have hm2 : t = 28 := by simpa using hm
  rcases hm2 with rfl
  · exact (show Tryd.prog.wantsStandIn 28 = false by kernel_rfl)
/-- The given statement. -/
theorem card : Rows.FnGatesCardSaid :=
  Claim7.holds_tied_plain_at .later [] _ _ _ _ said (fun _ h => by cases h) (by kernel_rfl) (fun _ h => by cases h) fnGates_row_tie rfl ⟨rfl, rfl⟩ (by kernel_rfl) rfl plain (by kernel_rfl)
end lawFnGates
end Go.Proofs.YtfiiaegfikocoaaDoor

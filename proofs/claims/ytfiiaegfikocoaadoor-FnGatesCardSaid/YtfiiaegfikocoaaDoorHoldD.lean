/- Gates and hazards that the reference draws. -/
import Derived.Test.YtfiiaegfikocoaaDoorMoved
import Derived.Test.YtfiiaegfikocoaaDoorHoldP
import Derived.Test.YtfiiaegfikocoaaDoorLawB
import Derived.Deep.RegionLaw
namespace Go.Proofs.YtfiiaegfikocoaaDoor
open Go.RowKit
theorem step_call {P : Program} {ops : Array Oper} {o : Oper} {a : Act} {w : World} {K : Act → World → Prop} {Q : Exit → Act → World → Prop} {X : Prop} (hgd : o.guard = none) (f : FuncId) (args : Array Value) (hrun : (execOp a.eval o).run P w = .ok (.enter f args) w)
    (hc : Calls P f args w fun e w' => ∃ v, e = .returned v ∧ K (a.put o.dst v) w') : if Region.wanted o (yielded ops a.tmps) = true then Oper.wp P o a w K Q else X := by
  have hw : Region.wanted o (yielded ops a.tmps) = true := by simp [Region.wanted, hgd]
  rw [if_pos hw]
  unfold Oper.wp
  rw [hrun]
  exact hc.mono fun e w' ⟨v, he, hk⟩ => by subst he; exact hk
theorem Gbox.at1 {w : World} {b : Nat} {x y : Gate} (h : Gbox w b x) (j0 : Nat) (hj0 : j0 < 6) (v : Value) (hv : y.cell j0 = v) (hne : ∀ j, j < 6 → j ≠ j0 → y.cell j = x.cell j) : Gbox (w.setCell ⟨b, j0, none⟩ v) b y :=
  ⟨h.blk.set _ _ _, fun j hj => by
    by_cases h3 : j = j0
    · subst h3; rw [h.blk.same hj0, hv]
    · rw [cell_other _ (by omega), h.cell j hj, hne j hj h3]⟩
theorem Blk.moved' {sb : Nat} {w w' : World} {g T n : Nat} (hB : Blk w g T n) (h : Moved sb w w') (hg : g ≠ sb) : Blk w' g T n := h.blk hg hB
theorem Gbox.moved {sb : Nat} {w w' : World} {b : Nat} {x : Gate} (h : Gbox w b x) (hm : Moved sb w w') (hne : b ≠ sb) : Gbox w' b x :=
  ⟨hm.blk hne h.blk, fun j hj => hm.cell (by show b ≠ sb; exact hne) (h.cell j hj)⟩
set_option maxRecDepth 100000 in
theorem one_any (w : World) (sb : Nat) (a : Option Addr) (cap : Nat) (code : List Int) (n : Nat) (H : Src w sb a cap code n) (hn : n ≤ 900000000) (m : Int) (hm : m ≤ 65536) :
    Calls Tryd.prog 48 #[.pointer (some ⟨sb, 0, none⟩), .int .i64 m] w fun e w' => ∃ (b : Bool) (k : Nat), e = .returned (.bool b) ∧ k ≤ 2 ∧ Src w' sb a cap code (n + k) ∧ Moved sb w w' := by
  have HP := Lib.hid (pick_any w sb a cap code n H hn m hm)
  clear H
  go_enter Tryd.func48, Tryd.ntmps48
  go_wp2_with fail
  refine HP.out.mono ?_
  rintro e w' ⟨r, k, rfl, p0, p1, hk, S, M⟩
  have S := Lib.hid S
  have M := Lib.hid M
  clear HP p1
  go_wp2_with fail
  go_ret
  exact ⟨_, k, rfl, hk, S.out, M.out⟩
/-- A gate that is drawn. -/
structure GateDrawn (x : Gate) (name : ByteArray) : Prop where
  id : x.id = name
  shut : 300 ≤ x.shut ∧ x.shut ≤ 790
  opn : x.shut - 190 ≤ x.opn ∧ x.opn ≤ x.shut
  hold : 1 ≤ x.hold ∧ x.hold ≤ 5
  calm : 0 ≤ x.calm ∧ x.calm ≤ x.hold - 1
  shuts : x.shuts = true ∨ x.calm = 0
theorem GateDrawn.mk' {name : ByteArray} {sh op ho ca : Int} {b : Bool} (h1 : 300 ≤ sh ∧ sh ≤ 790) (h2 : sh - 190 ≤ op ∧ op ≤ sh) (h3 : 1 ≤ ho ∧ ho ≤ 5) (h4 : 0 ≤ ca ∧ ca ≤ ho - 1) (h5 : b = true ∨ ca = 0) : GateDrawn ⟨name, sh, op, ho, b, ca⟩ name := ⟨rfl, h1, h2, h3, h4, h5⟩
theorem GateDrawn.ok {x : Gate} {name : ByteArray} (h : GateDrawn x name) (hn : nameB name = true) : gateB x = true := by
  rw [gateB_iff]
  obtain ⟨h1, h2, h3, h4, h5, h6⟩ := h
  exact ⟨by rw [h1]; exact hn, by omega, by omega, by omega, h5, h6⟩
set_option maxRecDepth 100000 in
set_option maxHeartbeats 8000000 in
theorem l21DrawOne_any (w : World) (sb : Nat) (a : Option Addr) (cap : Nat) (code : List Int) (n : Nat) (H : Src w sb a cap code n) (hn : n ≤ 800000000) (name : ByteArray) :
    Calls Tryd.prog 25 #[.pointer (some ⟨sb, 0, none⟩), .string name] w fun e w' => ∃ (x : Gate) (k : Nat), e = .returned (.agg #[.string x.id, .int .i64 x.shut, .int .i64 x.opn, .int .i64 x.hold, .bool x.shuts, .int .i64 x.calm]) ∧ GateDrawn x name ∧ k ≤ 12 ∧ Src w' sb a cap code (n + k) ∧ Moved sb w w' := by
  have HS := Lib.hid H
  have hsl := H.lt
  have hby := Lib.hid H.bytes
  clear H
  have hB := Lib.hid (Blk.new w #[.string ⟨#[]⟩, .int .i64 0, .int .i64 0, .int .i64 0, .bool false, .int .i64 0] 31)
  go_enter Tryd.func25, Tryd.ntmps25
  go_wp2_with fail
  refine (pick_any _ sb a cap code n (HS.out.ext (by repeat (first | exact Ext.refl _ | refine Ext.lift ?_ _ | refine Ext.alloc ?_ _))) (by omega) 50 (by omega)).mono ?_
  rintro e W1 ⟨r1, q1, rfl, p0, p1, hq1, S1, M1⟩
  have p1 := p1 (by omega)
  have S1 := Lib.hid S1
  have hB1 := Lib.hid (M1.blk (g := w.heap.size) (by omega) hB.out)
  have M1 := Lib.hid ((Moved.grow ((Ext.refl w).alloc _)).trans M1)
  have hr1 := hB1.out.lt
  have hs1 := S1.out.lt
  obtain ⟨rb, hrb1, hrb2⟩ : ∃ rb, rb = w.heap.size ∧ rb ≠ sb := ⟨_, rfl, by omega⟩
  have hrbw : w.heap.size ≤ rb := by omega
  rw [← hrb1] at hB1 hr1 ⊢
  clear hrb1 HS hB
  have hG1 := Gbox.new W1 ⟨name, 300 + 10 * r1, 0, 0, false, 0⟩
  have hx1 := (Ext.refl W1).alloc (.cells #[.string name, .int .i64 (300 + 10 * r1), .int .i64 0, .int .i64 0, .bool false, .int .i64 0] 31)
  obtain ⟨xb, hxb⟩ : ∃ xb, xb = W1.heap.size := ⟨_, rfl⟩
  obtain ⟨W2, hW2⟩ : ∃ W2, W2 = W1.alloc (.cells #[.string name, .int .i64 (300 + 10 * r1), .int .i64 0, .int .i64 0, .bool false, .int .i64 0] 31) := ⟨_, rfl⟩
  have hG2 : Gbox W2 xb ⟨name, 300 + 10 * r1, 0, 0, false, 0⟩ := by rw [hW2, hxb]; exact hG1
  rw [← hW2] at hx1
  have S2 := Lib.hid (S1.out.ext hx1)
  have M2 := Lib.hid (M1.out.more hx1)
  have hB2 := Lib.hid (hB1.out.ext hx1)
  have hxw : w.heap.size ≤ xb := by have := M1.out.size; omega
  have hxs : xb ≠ sb := by omega
  have hxr : xb ≠ rb := by omega
  have hs2 := S2.out.lt
  go_wp2_with fail
  rw [← hW2, ← hxb]
  clear hW2 hxb hG1 hx1 S1 M1 hB1 hr1 hs1
  obtain ⟨gl, -, g1, -, -, -, -⟩ := hG2.all
  have k2 := hG2.blk.frozen 2
  obtain ⟨u2, o2⟩ := hG2.blk.cell (o := 2) (by decide)
  have hG2 := Lib.hid hG2
  go_region_law (refine step_call rfl 26 #[.pointer (some ⟨sb, 0, none⟩), .int .i64 20] (by first | rfl | (go_simp; done) | (go_simp; rfl)) ?_; refine (pick_any _ sb a cap code (n + q1) (S2.out.ext ((Ext.refl _).drew)) (by omega) 20 (by omega)).mono ?_; rintro e W3 ⟨r2, q2, rfl, p2, p3, hq2, S3, M3⟩; refine ⟨_, rfl, ?_⟩; have p3 := p3 (by omega); have S3 := Lib.hid S3; have M3 := Lib.hid ((Moved.grow ((Ext.refl W2).drew)).trans M3); have y1 := M3.out.cell (p := ⟨xb, 1, none⟩) (by show xb ≠ sb; omega) g1; have hb3 := M3.out.blk (g := xb) (by omega) hG2.out.blk; have yk := hb3.frozen 2; obtain ⟨yu, yo⟩ := hb3.cell (o := 2) (by decide); have yl := hb3.lt)
  all_goals
    have hG3 := Lib.hid ((hG2.out.moved M3.out hxs).at1 (y := ⟨name, 300 + 10 * r1, 300 + 10 * r1 - 10 * r2, 0, false, 0⟩) 2 (by decide) (.int .i64 (300 + 10 * r1 - 10 * r2)) rfl (fun j hj hne => by rcases six hj with rfl | rfl | rfl | rfl | rfl | rfl <;> first | rfl | exact absurd rfl hne))
    have z1 : IntKind.i64.wrap (10 * r2) = 10 * r2 := by rw [IntKind.wrap_i64]; omega
    have z2 : IntKind.i64.wrap (300 + 10 * r1 - 10 * r2) = 300 + 10 * r1 - 10 * r2 := by rw [IntKind.wrap_i64]; omega
    rw [z1, z2]
    have S4 := Lib.hid (S3.out.other (b := xb) (o := 2) hby.out hxw hxs (.int .i64 (300 + 10 * r1 - 10 * r2)))
    have M4 := Lib.hid ((M2.out.trans M3.out).fresh (b := xb) (o := 2) hxw (.int .i64 (300 + 10 * r1 - 10 * r2)))
    have hB4 := Lib.hid ((M3.out.blk (g := rb) hrb2 hB2.out).set xb 2 (.int .i64 (300 + 10 * r1 - 10 * r2)))
    obtain ⟨W4, hW4⟩ : ∃ W4, W4 = W3.setCell ⟨xb, 2, none⟩ (.int .i64 (300 + 10 * r1 - 10 * r2)) := ⟨_, rfl⟩
    rw [← hW4] at hG3 S4 M4 hB4 ⊢
    clear hW4 z1 z2 S2 M2 hB2 S3 M3 hG2 g1 k2 u2 o2 y1 hb3 yk yu yo yl gl hs2
    go_wp2_with fail
    refine (pick_any W4 sb a cap code (n + q1 + q2) S4.out (by omega) 5 (by omega)).mono ?_
    rintro e W5 ⟨r3, q3, rfl, p4, p5, hq3, S5, M5⟩
    have p5 := p5 (by omega)
    have hG5 := hG3.out.moved M5 hxs
    have hB5 := hB4.out.moved' M5 hrb2
    have M5 := M4.out.trans M5
    have gl := hG5.blk.lt
    have k3 := hG5.blk.frozen 3
    obtain ⟨u3, o3⟩ := hG5.blk.cell (o := 3) (by decide)
    have hG6 := Lib.hid (hG5.at1 (y := ⟨name, 300 + 10 * r1, 300 + 10 * r1 - 10 * r2, 1 + r3, false, 0⟩) 3 (by decide) (.int .i64 (1 + r3)) rfl (fun j hj hne => by rcases six hj with rfl | rfl | rfl | rfl | rfl | rfl <;> first | rfl | exact absurd rfl hne))
    have S6 := Lib.hid (S5.other (b := xb) (o := 3) hby.out hxw hxs (.int .i64 (1 + r3)))
    have M6 := Lib.hid (M5.fresh (b := xb) (o := 3) hxw (.int .i64 (1 + r3)))
    have hB6 := Lib.hid (hB5.set xb 3 (.int .i64 (1 + r3)))
    obtain ⟨W6, hW6⟩ : ∃ W6, W6 = W5.setCell ⟨xb, 3, none⟩ (.int .i64 (1 + r3)) := ⟨_, rfl⟩
    rw [← hW6] at hG6 S6 M6 hB6
    clear S4 M4 hB4 hG3 hG5 S5 M5 hB5
    go_wp2_with fail
    rw [← hW6]
    clear hW6 gl k3 u3 o3
    refine (one_any W6 sb a cap code (n + q1 + q2 + q3) S6.out (by omega) 2 (by omega)).mono ?_
    rintro e W7 ⟨bb, q4, rfl, hq4, S7, M7⟩
    have hG7 := hG6.out.moved M7 hxs
    have hB7 := Lib.hid (hB6.out.moved' M7 hrb2)
    have M7 := Lib.hid (M6.out.trans M7)
    have S7 := Lib.hid S7
    clear S6 M6 hB6 hG6
    cases bb
    · obtain ⟨gl, g0, g1, g2, g3, g4, g5⟩ := hG7.all
      have rl := hB7.out.lt
      obtain ⟨v0, w0'⟩ := hB7.out.cell (o := 0) (by decide)
      obtain ⟨v1, w1'⟩ := hB7.out.cell (o := 1) (by decide)
      obtain ⟨v2, w2'⟩ := hB7.out.cell (o := 2) (by decide)
      obtain ⟨v3, w3'⟩ := hB7.out.cell (o := 3) (by decide)
      obtain ⟨v4, w4'⟩ := hB7.out.cell (o := 4) (by decide)
      obtain ⟨v5, w5'⟩ := hB7.out.cell (o := 5) (by decide)
      have n0 := hB7.out.frozen 0
      have n1 := hB7.out.frozen 1
      have n2 := hB7.out.frozen 2
      have n3 := hB7.out.frozen 3
      have n4 := hB7.out.frozen 4
      have n5 := hB7.out.frozen 5
      have hSQ : Src W7 sb a cap code (n + (q1 + q2 + q3 + q4)) := by rw [show n + (q1 + q2 + q3 + q4) = n + q1 + q2 + q3 + q4 by omega]; exact S7.out
      have hSQ := Lib.hid (Src.other (o := 5) (Src.other (o := 4) (Src.other (o := 3) (Src.other (o := 2) (Src.other (o := 1) (Src.other (o := 0) hSQ hby.out hrbw hrb2 (.string name)) hby.out hrbw hrb2 (.int .i64 (⟨name, 300 + 10 * r1, 300 + 10 * r1 - 10 * r2, 1 + r3, false, 0⟩ : Gate).shut)) hby.out hrbw hrb2 (.int .i64 (⟨name, 300 + 10 * r1, 300 + 10 * r1 - 10 * r2, 1 + r3, false, 0⟩ : Gate).opn)) hby.out hrbw hrb2 (.int .i64 (⟨name, 300 + 10 * r1, 300 + 10 * r1 - 10 * r2, 1 + r3, false, 0⟩ : Gate).hold)) hby.out hrbw hrb2 (.bool (⟨name, 300 + 10 * r1, 300 + 10 * r1 - 10 * r2, 1 + r3, false, 0⟩ : Gate).shuts)) hby.out hrbw hrb2 (.int .i64 (⟨name, 300 + 10 * r1, 300 + 10 * r1 - 10 * r2, 1 + r3, false, 0⟩ : Gate).calm))
      have hMQ := Lib.hid (Moved.fresh (o := 5) (Moved.fresh (o := 4) (Moved.fresh (o := 3) (Moved.fresh (o := 2) (Moved.fresh (o := 1) (Moved.fresh (o := 0) M7.out hrbw (.string name)) hrbw (.int .i64 (⟨name, 300 + 10 * r1, 300 + 10 * r1 - 10 * r2, 1 + r3, false, 0⟩ : Gate).shut)) hrbw (.int .i64 (⟨name, 300 + 10 * r1, 300 + 10 * r1 - 10 * r2, 1 + r3, false, 0⟩ : Gate).opn)) hrbw (.int .i64 (⟨name, 300 + 10 * r1, 300 + 10 * r1 - 10 * r2, 1 + r3, false, 0⟩ : Gate).hold)) hrbw (.bool (⟨name, 300 + 10 * r1, 300 + 10 * r1 - 10 * r2, 1 + r3, false, 0⟩ : Gate).shuts)) hrbw (.int .i64 (⟨name, 300 + 10 * r1, 300 + 10 * r1 - 10 * r2, 1 + r3, false, 0⟩ : Gate).calm))
      have hGD : Hid (GateDrawn (⟨name, 300 + 10 * r1, 300 + 10 * r1 - 10 * r2, 1 + r3, false, 0⟩ : Gate) name) := GateDrawn.mk' (by omega) (by omega) (by omega) (by omega) (by first | exact .inl rfl | exact .inr rfl)
      go_wp2_with fail
      refine bodyPost_ret (v := .agg #[.string name, .int .i64 (⟨name, 300 + 10 * r1, 300 + 10 * r1 - 10 * r2, 1 + r3, false, 0⟩ : Gate).shut, .int .i64 (⟨name, 300 + 10 * r1, 300 + 10 * r1 - 10 * r2, 1 + r3, false, 0⟩ : Gate).opn, .int .i64 (⟨name, 300 + 10 * r1, 300 + 10 * r1 - 10 * r2, 1 + r3, false, 0⟩ : Gate).hold, .bool (⟨name, 300 + 10 * r1, 300 + 10 * r1 - 10 * r2, 1 + r3, false, 0⟩ : Gate).shuts, .int .i64 (⟨name, 300 + 10 * r1, 300 + 10 * r1 - 10 * r2, 1 + r3, false, 0⟩ : Gate).calm]) (by simp [results, Tryd.results25, go_sem, w0', w1', w2', w3', w4', w5']) rfl ?_
      exact ⟨(⟨name, 300 + 10 * r1, 300 + 10 * r1 - 10 * r2, 1 + r3, false, 0⟩ : Gate), q1 + q2 + q3 + q4, rfl, hGD.out, by omega, hSQ.out, hMQ.out⟩
    · obtain ⟨gl, -, -, -, -, -, -⟩ := hG7.all
      have k4 := hG7.blk.frozen 4
      obtain ⟨u4, o4⟩ := hG7.blk.cell (o := 4) (by decide)
      have hG8 := Lib.hid (hG7.at1 (y := ⟨name, 300 + 10 * r1, 300 + 10 * r1 - 10 * r2, 1 + r3, true, 0⟩) 4 (by decide) (.bool true) rfl (fun j hj hne => by rcases six hj with rfl | rfl | rfl | rfl | rfl | rfl <;> first | rfl | exact absurd rfl hne))
      have S8 := Lib.hid (S7.out.other (b := xb) (o := 4) hby.out hxw hxs (.bool true))
      have M8 := Lib.hid (M7.out.fresh (b := xb) (o := 4) hxw (.bool true))
      have hB8 := Lib.hid (hB7.out.set xb 4 (.bool true))
      obtain ⟨W8, hW8⟩ : ∃ W8, W8 = W7.setCell ⟨xb, 4, none⟩ (.bool true) := ⟨_, rfl⟩
      have g3 : (W7.setCell ⟨xb, 4, none⟩ (.bool true)).cell? ⟨xb, 3, none⟩ = some (.int .i64 (1 + r3)) := hG8.out.cell 3 (by decide)
      rw [← hW8] at hG8 S8 M8 hB8
      have g3' := hG7.cell 3 (by decide)
      change W7.cell? ⟨xb, 3, none⟩ = some (.int .i64 (1 + r3)) at g3'
      clear S7 M7 hB7 g3 hG7
      go_wp2_with fail
      rw [← hW8]
      clear hW8 gl k4 u4 o4 g3'
      refine (pick_any W8 sb a cap code (n + q1 + q2 + q3 + q4) S8.out (by omega) (1 + r3) (by omega)).mono ?_
      rintro e W9 ⟨r4, q5, rfl, p6, p7, hq5, S9, M9⟩
      have p7 := p7 (by omega)
      have hG9 := hG8.out.moved M9 hxs
      have hB9 := hB8.out.moved' M9 hrb2
      have M9 := M8.out.trans M9
      have gl := hG9.blk.lt
      have k5 := hG9.blk.frozen 5
      obtain ⟨u5, o5⟩ := hG9.blk.cell (o := 5) (by decide)
      have hG10 := Lib.hid (hG9.at1 (y := ⟨name, 300 + 10 * r1, 300 + 10 * r1 - 10 * r2, 1 + r3, true, r4⟩) 5 (by decide) (.int .i64 r4) rfl (fun j hj hne => by rcases six hj with rfl | rfl | rfl | rfl | rfl | rfl <;> first | rfl | exact absurd rfl hne))
      have S10 := Lib.hid (S9.other (b := xb) (o := 5) hby.out hxw hxs (.int .i64 r4))
      have M10 := Lib.hid (M9.fresh (b := xb) (o := 5) hxw (.int .i64 r4))
      have hB10 := Lib.hid (hB9.set xb 5 (.int .i64 r4))
      clear hG8 S8 M8 hB8 S9 M9
      clear hG10 hB10 gl
      obtain ⟨gl, g0, g1, g2, g3, g4, g5⟩ := hG9.all
      have rl := hB9.lt
      obtain ⟨v0, w0'⟩ := hB9.cell (o := 0) (by decide)
      obtain ⟨v1, w1'⟩ := hB9.cell (o := 1) (by decide)
      obtain ⟨v2, w2'⟩ := hB9.cell (o := 2) (by decide)
      obtain ⟨v3, w3'⟩ := hB9.cell (o := 3) (by decide)
      obtain ⟨v4, w4'⟩ := hB9.cell (o := 4) (by decide)
      obtain ⟨v5, w5'⟩ := hB9.cell (o := 5) (by decide)
      have n0 := hB9.frozen 0
      have n1 := hB9.frozen 1
      have n2 := hB9.frozen 2
      have n3 := hB9.frozen 3
      have n4 := hB9.frozen 4
      have n5 := hB9.frozen 5
      have hSQ : Src (W9.setCell ⟨xb, 5, none⟩ (.int .i64 r4)) sb a cap code (n + (q1 + q2 + q3 + q4 + q5)) := by rw [show n + (q1 + q2 + q3 + q4 + q5) = n + q1 + q2 + q3 + q4 + q5 by omega]; exact S10.out
      have hSQ := Lib.hid (Src.other (o := 5) (Src.other (o := 4) (Src.other (o := 3) (Src.other (o := 2) (Src.other (o := 1) (Src.other (o := 0) hSQ hby.out hrbw hrb2 (.string name)) hby.out hrbw hrb2 (.int .i64 (⟨name, 300 + 10 * r1, 300 + 10 * r1 - 10 * r2, 1 + r3, true, r4⟩ : Gate).shut)) hby.out hrbw hrb2 (.int .i64 (⟨name, 300 + 10 * r1, 300 + 10 * r1 - 10 * r2, 1 + r3, true, r4⟩ : Gate).opn)) hby.out hrbw hrb2 (.int .i64 (⟨name, 300 + 10 * r1, 300 + 10 * r1 - 10 * r2, 1 + r3, true, r4⟩ : Gate).hold)) hby.out hrbw hrb2 (.bool (⟨name, 300 + 10 * r1, 300 + 10 * r1 - 10 * r2, 1 + r3, true, r4⟩ : Gate).shuts)) hby.out hrbw hrb2 (.int .i64 (⟨name, 300 + 10 * r1, 300 + 10 * r1 - 10 * r2, 1 + r3, true, r4⟩ : Gate).calm))
      have hMQ := Lib.hid (Moved.fresh (o := 5) (Moved.fresh (o := 4) (Moved.fresh (o := 3) (Moved.fresh (o := 2) (Moved.fresh (o := 1) (Moved.fresh (o := 0) M10.out hrbw (.string name)) hrbw (.int .i64 (⟨name, 300 + 10 * r1, 300 + 10 * r1 - 10 * r2, 1 + r3, true, r4⟩ : Gate).shut)) hrbw (.int .i64 (⟨name, 300 + 10 * r1, 300 + 10 * r1 - 10 * r2, 1 + r3, true, r4⟩ : Gate).opn)) hrbw (.int .i64 (⟨name, 300 + 10 * r1, 300 + 10 * r1 - 10 * r2, 1 + r3, true, r4⟩ : Gate).hold)) hrbw (.bool (⟨name, 300 + 10 * r1, 300 + 10 * r1 - 10 * r2, 1 + r3, true, r4⟩ : Gate).shuts)) hrbw (.int .i64 (⟨name, 300 + 10 * r1, 300 + 10 * r1 - 10 * r2, 1 + r3, true, r4⟩ : Gate).calm))
      have hGD : Hid (GateDrawn (⟨name, 300 + 10 * r1, 300 + 10 * r1 - 10 * r2, 1 + r3, true, r4⟩ : Gate) name) := GateDrawn.mk' (by omega) (by omega) (by omega) (by omega) (by first | exact .inl rfl | exact .inr rfl)
      go_wp2_with fail
      refine bodyPost_ret (v := .agg #[.string name, .int .i64 (⟨name, 300 + 10 * r1, 300 + 10 * r1 - 10 * r2, 1 + r3, true, r4⟩ : Gate).shut, .int .i64 (⟨name, 300 + 10 * r1, 300 + 10 * r1 - 10 * r2, 1 + r3, true, r4⟩ : Gate).opn, .int .i64 (⟨name, 300 + 10 * r1, 300 + 10 * r1 - 10 * r2, 1 + r3, true, r4⟩ : Gate).hold, .bool (⟨name, 300 + 10 * r1, 300 + 10 * r1 - 10 * r2, 1 + r3, true, r4⟩ : Gate).shuts, .int .i64 (⟨name, 300 + 10 * r1, 300 + 10 * r1 - 10 * r2, 1 + r3, true, r4⟩ : Gate).calm]) (by simp [results, Tryd.results25, go_sem, w0', w1', w2', w3', w4', w5']) rfl ?_
      exact ⟨(⟨name, 300 + 10 * r1, 300 + 10 * r1 - 10 * r2, 1 + r3, true, r4⟩ : Gate), q1 + q2 + q3 + q4 + q5, rfl, hGD.out, by omega, hSQ.out, hMQ.out⟩
end Go.Proofs.YtfiiaegfikocoaaDoor

/- Gates and hazards that the reference draws: lists; open gates; a gate an hour later. -/
import Derived.Test.YtfiiaegfikocoaaDoorHoldD
import Derived.Test.YtfiiaegfikocoaaDoorHoldR
namespace Go.Proofs.YtfiiaegfikocoaaDoor
open Go.RowKit
set_option maxRecDepth 100000 in
set_option maxHeartbeats 4000000 in
theorem R8Gate_any (w : World) (a : Option Addr) (cap : Nat) (code : List Int) (H : ByteAt w a code) (hr : ∀ k, k < code.length → 0 ≤ nth code k ∧ nth code k ≤ 255) (hf : code.length ≤ 1048576) :
    Calls Tryd.prog 9 #[.slice a code.length cap] w fun e w' => ∃ x : Gate, e = .returned (.agg #[.string x.id, .int .i64 x.shut, .int .i64 x.opn, .int .i64 x.hold, .bool x.shuts, .int .i64 x.calm]) ∧ GateDrawn x ⟨#[112, 97, 115, 115]⟩ ∧ Ext w w' := by
  have HF := Lib.hid fun (W : World) (he : Ext w W) => l00From_any W a cap code (RowsAt.ext H he) hr hf
  clear H hr
  go_enter Tryd.func9, Tryd.ntmps9
  go_wp2_with fail
  refine (HF.out _ (by repeat (first | exact Ext.refl _ | refine Ext.lift ?_ _ | refine Ext.alloc ?_ _))).mono ?_
  rintro e w1 ⟨sb, rfl, hsb, S1, E1⟩
  have hB := ((Blk.new w #[.string ⟨#[]⟩, .int .i64 0, .int .i64 0, .int .i64 0, .bool false, .int .i64 0] 31).ext E1)
  have E1 := Lib.hid (Ext.trans ((Ext.refl w).alloc _) E1)
  have S1 := Lib.hid S1
  rw [size_new] at hsb
  obtain ⟨rb, hrb⟩ : ∃ rb, rb = w.heap.size := ⟨_, rfl⟩
  rw [← hrb] at hB ⊢
  have hrw : w.heap.size ≤ rb := by omega
  have hne : rb ≠ sb := by omega
  have hsw : w.heap.size ≤ sb := by omega
  clear hrb HF
  go_wp2_with fail
  refine (l21DrawOne_any w1 sb a cap code 0 S1.out (by omega) ⟨#[112, 97, 115, 115]⟩).mono ?_
  rintro e w2 ⟨x, k, rfl, hD, hk, S2, M2⟩
  have hB2 := M2.blk hne hB
  have hE2 : Hid (Ext w w2) := M2.ext w hsw E1.out
  have hE3 := Lib.hid ((((((hE2.out.setCell (p := ⟨rb, 0, none⟩) hrw (.string x.id)).setCell (p := ⟨rb, 1, none⟩) hrw (.int .i64 x.shut)).setCell (p := ⟨rb, 2, none⟩) hrw (.int .i64 x.opn)).setCell (p := ⟨rb, 3, none⟩) hrw (.int .i64 x.hold)).setCell (p := ⟨rb, 4, none⟩) hrw (.bool x.shuts)).setCell (p := ⟨rb, 5, none⟩) hrw (.int .i64 x.calm))
  have hD := Lib.hid hD
  have rl := hB2.lt
  obtain ⟨v0, w0'⟩ := hB2.cell (o := 0) (by decide)
  obtain ⟨v1, w1'⟩ := hB2.cell (o := 1) (by decide)
  obtain ⟨v2, w2'⟩ := hB2.cell (o := 2) (by decide)
  obtain ⟨v3, w3'⟩ := hB2.cell (o := 3) (by decide)
  obtain ⟨v4, w4'⟩ := hB2.cell (o := 4) (by decide)
  obtain ⟨v5, w5'⟩ := hB2.cell (o := 5) (by decide)
  have n0 := hB2.frozen 0
  have n1 := hB2.frozen 1
  have n2 := hB2.frozen 2
  have n3 := hB2.frozen 3
  have n4 := hB2.frozen 4
  have n5 := hB2.frozen 5
  clear hB hB2 S1 S2 M2 E1 hE2
  go_wp2_with fail
  refine bodyPost_ret (v := .agg #[.string x.id, .int .i64 x.shut, .int .i64 x.opn, .int .i64 x.hold, .bool x.shuts, .int .i64 x.calm]) (by simp [results, Tryd.results9, go_sem, w0', w1', w2', w3', w4', w5']) rfl ?_
  exact ⟨x, rfl, hD.out, hE3.out⟩
theorem l00Min_any (a b : Int) (w : World) : Calls Tryd.prog 28 #[.int .i64 a, .int .i64 b] w fun e w' => e = .returned (.int .i64 (if a < b then a else b)) ∧ w' = w := by
  by_cases h : a < b
  all_goals
    go_enter Tryd.func28, Tryd.ntmps28
    go_wp2
    go_ret
    exact ⟨by first | rfl | simp [h], rfl⟩
theorem l00Max_any (a b : Int) (w : World) : Calls Tryd.prog 27 #[.int .i64 a, .int .i64 b] w fun e w' => e = .returned (.int .i64 (if b < a then a else b)) ∧ w' = w := by
  by_cases h : b < a
  all_goals
    go_enter Tryd.func27, Tryd.ntmps27
    go_wp2
    go_ret
    exact ⟨by first | rfl | simp [h], rfl⟩
/-- Hazards that are drawn. -/
structure HazDrawn (l : List Int) (k : Nat) : Prop where
  len : l.length ≤ k
  bd : ∀ j, j < l.length → 0 ≤ nth l j ∧ nth l j ≤ 1000
theorem HazDrawn.nil (k : Nat) : HazDrawn [] k := ⟨Nat.zero_le _, fun _ h => absurd h (Nat.not_lt_zero _)⟩
theorem HazDrawn.push {l : List Int} {k : Nat} (h : HazDrawn l k) {x : Int} (h0 : 0 ≤ x) (h1 : x ≤ 1000) : HazDrawn (l ++ [x]) (k + 1) := by
  refine ⟨by rw [List.length_append]; have := h.len; simp only [List.length_cons, List.length_nil]; omega, fun j hj => ?_⟩
  rw [List.length_append] at hj; simp only [List.length_cons, List.length_nil] at hj
  rcases Nat.lt_or_ge j l.length with h2 | h2
  · rw [nth_pre h2]; exact h.bd j h2
  · obtain rfl : j = l.length := by omega
    rw [nth_last]; exact ⟨h0, h1⟩
theorem HazDrawn.all {l : List Int} {k : Nat} (h : HazDrawn l k) : allIn l 0 1000 = true := allIn_iff.2 fun j hj => inB_iff.2 (h.bd j hj)
abbrev cellI : Int → Nat → Value := fun (x : Int) (_ : Nat) => Value.int .i64 x
theorem elInt : El Tryd.prog 33 2 1 8 := El.mk' Tryd.underlying33 (by kernel_rfl) (by decide)
theorem oneInt : ∀ (x : Int) (j : Nat), j < 1 → (cellI x j).oneCell' = true := fun _ _ _ => rfl
set_option maxRecDepth 100000 in
set_option maxHeartbeats 8000000 in
theorem R8Hazards_any (w : World) (a : Option Addr) (cap : Nat) (code : List Int) (H : ByteAt w a code) (hr : ∀ k, k < code.length → 0 ≤ nth code k ∧ nth code k ≤ 255) (hf : code.length ≤ 1048576) :
    Calls Tryd.prog 10 #[.slice a code.length cap] w fun e w' => ∃ (o : Option Addr) (oc : Nat) (l : List Int), e = .returned (.slice o l.length oc) ∧ l.length ≤ oc ∧ HazDrawn l 12 ∧ IntAt w' o l ∧ Ext w w' := by
  have HF := Lib.hid (l00From_any w a cap code H hr hf)
  have hby := Lib.hid H
  clear H hr
  go_enter Tryd.func10, Tryd.ntmps10
  go_wp2_with fail
  refine HF.out.mono ?_
  rintro e w1 ⟨sb, rfl, hsb, S1, E1⟩
  have hs1 := S1.lt
  have hx1 := (Ext.refl w1).alloc (.cells #[] 2)
  have hL1 := Lst.new (T := 2) (n := 1) (cell := cellI) w1 (sb + 1) (by omega)
  obtain ⟨w2, hw2⟩ : ∃ w2, w2 = w1.alloc (.cells #[] 2) := ⟨_, rfl⟩
  rw [← hw2] at hx1 hL1
  have S2 := Lib.hid (S1.ext hx1)
  have E2 := Lib.hid (E1.trans hx1)
  have hL2 := Lib.hid hL1
  clear hL1 hx1 S1 E1 HF
  go_wp2_with fail
  rw [← hw2]
  clear hw2
  refine (pick_any w2 sb a cap code 0 S2.out (by omega) 80 (by omega)).mono ?_
  rintro e w3 ⟨r1, q1, rfl, p0, p1, hq1, S3, M3⟩
  have p1 := p1 (by omega)
  have hL3 := Lib.hid (hL2.out.moved M3 (Nat.lt_succ_self sb))
  have E3 := Lib.hid (M3.ext w hsb E2.out)
  have S3 := Lib.hid S3
  clear M3 S2 E2 hL2
  go_wp2_with fail
  refine (pick_any w3 sb a cap code (0 + q1) S3.out (by omega) 13 (by omega)).mono ?_
  rintro e w4 ⟨r2, q2, rfl, p2, p3, hq2, S4, M4⟩
  have p3 := p3 (by omega)
  have hL4 := Lib.hid (hL3.out.moved M4 (Nat.lt_succ_self sb))
  have E4 := Lib.hid (M4.ext w hsb E3.out)
  have S4 := Lib.hid S4
  clear M4 S3 E3 hL3
  have hq12 : q1 + q2 ≤ 4 := by omega
  go_wp2_with fail
  go_loopw [4, 5, 6] (fun o nn kk wr => ∃ (j q : Nat) (L : List Int) (v : Int), kk = .int .i64 (r2 - j) ∧ (j : Int) ≤ r2 ∧ nn = .int .i64 v ∧ 0 ≤ v ∧ v ≤ 1000 ∧ q ≤ 2 * j ∧ Hid (HazDrawn L j) ∧ Hid (Lst 2 1 cellI wr (sb + 1) o L) ∧ Hid (Src wr sb a cap code (q1 + q2 + q)) ∧ Hid (Ext w wr)) (fun _ _ kk _ => (intOf kk).toNat)
  case atStart => exact ⟨0, 0, [], 10 * r1, by first | rfl | (congr 1; omega), by omega, rfl, by omega, by omega, Nat.le_refl _, HazDrawn.nil 0, hL4.out, by have := S4.out; rw [Nat.zero_add] at this; exact this, E4.out⟩
  case round =>
    clear hL4 S4 E4
    obtain ⟨j, q, L, v, rfl, hj, rfl, v0, v1, hq, hD, hL, S5, E5⟩ := hrel
    have hLl := hD.out.len
    have hsl := S5.out.lt
    have hj12 : j ≤ 12 := by omega
    obtain ⟨la, lc, rfl, hlc, hlm, hR, -⟩ := hL.out.shape
    replace hR := Lib.hid hR
    by_cases hlt : 0 < r2 - (j : Int)
    · have hx := Lib.hid ((Ext.refl wr).alloc (.cells #[.int .i64 v] 2))
      have HLA := Lib.hid (hL.out.ext hx.out)
      have HRA : Hid (IntAt (wr.alloc (.cells #[.int .i64 v] 2)) (some ⟨wr.heap.size, 0, none⟩) [v]) := rows_int wr v rfl
      have S6 := Lib.hid (S5.out.ext hx.out)
      have E6 := Lib.hid (E5.out.trans hx.out)
      have hD2 := Lib.hid (hD.out.push v0 v1)
      clear hL S5 E5 hR hx
      try dsimp only
      repeat (first | (at_builtin; refine Hid.out ?_) | go_values | go_skip | go_guarded | go_step | go_upon | go_back)
      refine Lib.hid ?_
      refine wpList_pushL elInt oneInt rfl _ _ rfl (sb + 1) _ L rfl HLA.out _ 1 1 [v] rfl rfl HRA.out (by omega) (by omega) (by rw [size_new]; omega) ?_
      intro v3 w5 L3 hs3 hg3
      have hL5 := Lib.hid L3
      have hrow : ∀ g, (Value.slice la L.length lc).ownBlock = some g → sb + 1 ≤ g := fun g e => ownBlock_le HLA.out g e
      have S7 := Lib.hid (S6.out.grown hg3 hrow (Nat.lt_succ_self sb) hby.out (by omega))
      have E7 := Lib.hid (E6.out.grown hg3 (fun g e => by have := hrow g e; omega))
      clear L3 hs3 hg3 hrow HLA HRA S6 E6
      go_wp2_with fail
      refine (pick_any w5 sb a cap code (q1 + q2 + q) S7.out (by omega) 60 (by omega)).mono ?_
      rintro e w6 ⟨r, q5, rfl, p4, p5, hq5, S8, M8⟩
      have p5 := p5 (by omega)
      have hL6 := Lib.hid (hL5.out.moved M8 (Nat.lt_succ_self sb))
      have E8 := Lib.hid (M8.ext w hsb E7.out)
      have S8 := Lib.hid S8
      clear M8 S7 E7 hL5
      go_wp2_with fail
      refine (l00Min_any _ _ _).mono ?_
      rintro e w6' ⟨rfl, hw6⟩
      subst hw6
      obtain ⟨m, hm⟩ : ∃ m : Int, m = if 1000 < v + 10 * r - 300 then 1000 else v + 10 * r - 300 := ⟨_, rfl⟩
      have m0 : m ≤ 1000 := by rw [hm]; split <;> omega
      rw [← hm]
      clear hm
      go_wp2_with fail
      refine (l00Max_any _ _ _).mono ?_
      rintro e w6'' ⟨rfl, hw6⟩
      subst hw6
      obtain ⟨m2, hm2⟩ : ∃ m2 : Int, m2 = if m < 0 then 0 else m := ⟨_, rfl⟩
      have m1 : 0 ≤ m2 ∧ m2 ≤ 1000 := by rw [hm2]; split <;> omega
      rw [← hm2]
      clear hm2
      go_wp2_with fail
      go_roundw
      case rel => exact ⟨j + 1, q + q5, L ++ [v], m2, by first | (congr 1; omega) | (simp only [Value.int.injEq, true_and]; omega), by omega, rfl, m1.1, m1.2, by omega, hD2.out, hL6.out, by rw [← Nat.add_assoc]; exact S8.out, E8.out⟩
      case measure => simp [intOf]; omega
    · have hD2 : Hid (HazDrawn L 12) := ⟨by have := hD.out.len; omega, hD.out.bd⟩
      have E6 := Lib.hid E5.out
      clear hL S5 hD
      go_wp2_with fail
      go_ret
      exact ⟨la, lc, L, rfl, hlc, hD2.out, hR.out, E6.out⟩
end Go.Proofs.YtfiiaegfikocoaaDoor

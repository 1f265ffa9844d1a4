/- The class of a test: what the program's and the reference's functions say. -/
import Derived.Test.YtdopffhekinbnaaTestV
namespace Go.Proofs.Ytdopffhekinbnaa
open Go.RowKit
def lim (k : Int) (j : Nat) : Int :=
  if k = 1 then (if j = 0 then 10 else if j = 1 then 20 else 30) else if k = 2 then (if j = 0 then 13 else if j = 1 then 22 else 30) else (if j = 0 then 2 else if j = 1 then 4 else 6)
def cnt (x : Test) : Nat → Int
  | 0 => 0
  | j + 1 => cnt x j + (if lim x.kind j < x.score then 1 else 0)
theorem cnt_bd (x : Test) : ∀ j, 0 ≤ cnt x j ∧ cnt x j ≤ j
  | 0 => ⟨Int.le_refl _, Int.le_refl _⟩
  | j + 1 => by
    have := cnt_bd x j
    unfold cnt
    split <;> omega
theorem cnt_y {x : Test} {j : Nat} {n : Int} (h : lim x.kind j = n) (hs : n < x.score) : cnt x (j + 1) = cnt x j + 1 := by
  show cnt x j + _ = _; rw [h, if_pos hs]
theorem cnt_n {x : Test} {j : Nat} {n : Int} (h : lim x.kind j = n) (hs : ¬ n < x.score) : cnt x (j + 1) = cnt x j := by
  show cnt x j + _ = _; rw [h, if_neg hs]; omega
def clampV (v : Int) : Int := if v < 1 then 1 else if 4 < v then 4 else v
def classV (x : Test) : Int := clampV (1 + cnt x 3 + x.quality - 2)
theorem classV_bd (x : Test) : 1 ≤ classV x ∧ classV x ≤ 4 := by unfold classV clampV; split <;> (try split) <;> omega
set_option maxRecDepth 100000 in
set_option maxHeartbeats 4000000 in
theorem Test_class (x : Test) (w : World) (hx : testB x = true) :
    Gives Try.prog 40 #[.agg #[.int .i64 x.kind, .int .i64 x.score, .int .i64 x.quality, .int .i64 x.depth, .int .i64 x.hour]] w (.int .i64 (classV x)) := by
  unfold Gives
  obtain ⟨⟨q0, q1⟩, -, -, ⟨k0, k1⟩, ⟨s0, s1⟩⟩ := testB_bd hx
  clear hx
  rcases (show x.kind = 1 ∨ x.kind = 2 ∨ x.kind = 3 by omega) with hk | hk | hk
  all_goals clear k0 k1
  · have k0 : Hid (lim x.kind 0 = 10) := by show _ = _; rw [hk]; rfl
    have k1 : Hid (lim x.kind 1 = 20) := by show _ = _; rw [hk]; rfl
    have k2 : Hid (lim x.kind 2 = 30) := by show _ = _; rw [hk]; rfl
    have hcl : Hid (classV x = clampV (1 + cnt x 3 + x.quality - 2)) := rfl
    have hkh := Lib.hid hk
    have hb3 := cnt_bd x 3
    have hix : ∀ w : World, (Instr.index 81 (.agg #[.int .i64 0, .int .i64 0, .int .i64 0, .int .i64 10, .int .i64 20, .int .i64 30, .int .i64 13, .int .i64 22, .int .i64 30, .int .i64 2, .int .i64 4, .int .i64 6]) (.int .i64 1)).run Try.prog w = .ok (.agg #[.int .i64 10, .int .i64 20, .int .i64 30]) w := fun w => by kernel_rfl
    have hi0 : ∀ w : World, (Instr.index 80 (.agg #[.int .i64 10, .int .i64 20, .int .i64 30]) (.int .i64 0)).run Try.prog w = .ok (.int .i64 10) w := fun w => by kernel_rfl
    have hi1 : ∀ w : World, (Instr.index 80 (.agg #[.int .i64 10, .int .i64 20, .int .i64 30]) (.int .i64 1)).run Try.prog w = .ok (.int .i64 20) w := fun w => by kernel_rfl
    have hi2 : ∀ w : World, (Instr.index 80 (.agg #[.int .i64 10, .int .i64 20, .int .i64 30]) (.int .i64 2)).run Try.prog w = .ok (.int .i64 30) w := fun w => by kernel_rfl
    rw [hk]
    clear hk
    go_enter Try.func40, Try.ntmps40
    go_wp2_with fail
    go_loopw [4, 15] (fun c i wr => ∃ j : Nat, j ≤ 3 ∧ i = .int .i64 j ∧ c = .int .i64 (1 + cnt x j) ∧ Ext w wr ∧ wr.cell? ⟨w.heap.size, 1, none⟩ = some (.int .i64 x.score) ∧ wr.cell? ⟨w.heap.size, 2, none⟩ = some (.int .i64 x.quality) ∧ w.heap.size < wr.heap.size) (fun _ i _ => 3 - (intOf i).toNat)
    case atStart => exact ⟨0, by omega, rfl, by simp [cnt], (by repeat (first | exact Ext.refl _ | refine Ext.lift ?_ _ | refine Ext.alloc ?_ _)), by go_simp, by go_simp, by first | (simp; done) | (simp; omega) | (rw [size_new]; omega)⟩
    case round =>
      obtain ⟨j, hj, rfl, rfl, he, x1, x2, xl⟩ := hrel
      have hbj := cnt_bd x j
      rcases (show j = 0 ∨ j = 1 ∨ j = 2 ∨ j = 3 by omega) with rfl | rfl | rfl | rfl
      · by_cases hs : 10 < x.score
        · have hn := Lib.hid (cnt_y k0.out hs)
          go_wp2_with fail
          go_roundw
          case rel => exact ⟨1, by omega, rfl, by rw [hn.out]; congr 1 <;> omega, he, x1, x2, xl⟩
          case measure => simp [intOf]
        · have hn := Lib.hid (cnt_n k0.out hs)
          go_wp2_with fail
          go_roundw
          case rel => exact ⟨1, by omega, rfl, by rw [hn.out], he, x1, x2, xl⟩
          case measure => simp [intOf]
      · by_cases hs : 20 < x.score
        · have hn := Lib.hid (cnt_y k1.out hs)
          go_wp2_with fail
          go_roundw
          case rel => exact ⟨2, by omega, rfl, by rw [hn.out]; congr 1 <;> omega, he, x1, x2, xl⟩
          case measure => simp [intOf]
        · have hn := Lib.hid (cnt_n k1.out hs)
          go_wp2_with fail
          go_roundw
          case rel => exact ⟨2, by omega, rfl, by rw [hn.out], he, x1, x2, xl⟩
          case measure => simp [intOf]
      · by_cases hs : 30 < x.score
        · have hn := Lib.hid (cnt_y k2.out hs)
          go_wp2_with fail
          go_roundw
          case rel => exact ⟨3, by omega, rfl, by rw [hn.out]; congr 1 <;> omega, he, x1, x2, xl⟩
          case measure => simp [intOf]
        · have hn := Lib.hid (cnt_n k2.out hs)
          go_wp2_with fail
          go_roundw
          case rel => exact ⟨3, by omega, rfl, by rw [hn.out], he, x1, x2, xl⟩
          case measure => simp [intOf]
      · rcases Int.lt_or_le (1 + cnt x 3 + x.quality - 2) 1 with h1 | h1
        · have hv : Hid (1 = classV x) := by show _ = _; rw [hcl.out]; unfold clampV; rw [if_pos h1]
          go_wp2_with fail
          go_ret
          exact ⟨ret_int hv.out, he⟩
        · rcases Int.lt_or_le 4 (1 + cnt x 3 + x.quality - 2) with h2 | h2
          · have hv : Hid (4 = classV x) := by show _ = _; rw [hcl.out]; unfold clampV; rw [if_neg (by omega), if_pos h2]
            go_wp2_with fail
            go_ret
            exact ⟨ret_int hv.out, he⟩
          · have hv : Hid (1 + cnt x 3 + x.quality - 2 = classV x) := by show _ = _; rw [hcl.out]; unfold clampV; rw [if_neg (by omega), if_neg (by omega)]
            go_wp2_with fail
            go_ret
            exact ⟨ret_int hv.out, he⟩
  · have k0 : Hid (lim x.kind 0 = 13) := by show _ = _; rw [hk]; rfl
    have k1 : Hid (lim x.kind 1 = 22) := by show _ = _; rw [hk]; rfl
    have k2 : Hid (lim x.kind 2 = 30) := by show _ = _; rw [hk]; rfl
    have hcl : Hid (classV x = clampV (1 + cnt x 3 + x.quality - 2)) := rfl
    have hkh := Lib.hid hk
    have hb3 := cnt_bd x 3
    have hix : ∀ w : World, (Instr.index 81 (.agg #[.int .i64 0, .int .i64 0, .int .i64 0, .int .i64 10, .int .i64 20, .int .i64 30, .int .i64 13, .int .i64 22, .int .i64 30, .int .i64 2, .int .i64 4, .int .i64 6]) (.int .i64 2)).run Try.prog w = .ok (.agg #[.int .i64 13, .int .i64 22, .int .i64 30]) w := fun w => by kernel_rfl
    have hi0 : ∀ w : World, (Instr.index 80 (.agg #[.int .i64 13, .int .i64 22, .int .i64 30]) (.int .i64 0)).run Try.prog w = .ok (.int .i64 13) w := fun w => by kernel_rfl
    have hi1 : ∀ w : World, (Instr.index 80 (.agg #[.int .i64 13, .int .i64 22, .int .i64 30]) (.int .i64 1)).run Try.prog w = .ok (.int .i64 22) w := fun w => by kernel_rfl
    have hi2 : ∀ w : World, (Instr.index 80 (.agg #[.int .i64 13, .int .i64 22, .int .i64 30]) (.int .i64 2)).run Try.prog w = .ok (.int .i64 30) w := fun w => by kernel_rfl
    rw [hk]
    clear hk
    go_enter Try.func40, Try.ntmps40
    go_wp2_with fail
    go_loopw [4, 15] (fun c i wr => ∃ j : Nat, j ≤ 3 ∧ i = .int .i64 j ∧ c = .int .i64 (1 + cnt x j) ∧ Ext w wr ∧ wr.cell? ⟨w.heap.size, 1, none⟩ = some (.int .i64 x.score) ∧ wr.cell? ⟨w.heap.size, 2, none⟩ = some (.int .i64 x.quality) ∧ w.heap.size < wr.heap.size) (fun _ i _ => 3 - (intOf i).toNat)
    case atStart => exact ⟨0, by omega, rfl, by simp [cnt], (by repeat (first | exact Ext.refl _ | refine Ext.lift ?_ _ | refine Ext.alloc ?_ _)), by go_simp, by go_simp, by first | (simp; done) | (simp; omega) | (rw [size_new]; omega)⟩
    case round =>
      obtain ⟨j, hj, rfl, rfl, he, x1, x2, xl⟩ := hrel
      have hbj := cnt_bd x j
      rcases (show j = 0 ∨ j = 1 ∨ j = 2 ∨ j = 3 by omega) with rfl | rfl | rfl | rfl
      · by_cases hs : 13 < x.score
        · have hn := Lib.hid (cnt_y k0.out hs)
          go_wp2_with fail
          go_roundw
          case rel => exact ⟨1, by omega, rfl, by rw [hn.out]; congr 1 <;> omega, he, x1, x2, xl⟩
          case measure => simp [intOf]
        · have hn := Lib.hid (cnt_n k0.out hs)
          go_wp2_with fail
          go_roundw
          case rel => exact ⟨1, by omega, rfl, by rw [hn.out], he, x1, x2, xl⟩
          case measure => simp [intOf]
      · by_cases hs : 22 < x.score
        · have hn := Lib.hid (cnt_y k1.out hs)
          go_wp2_with fail
          go_roundw
          case rel => exact ⟨2, by omega, rfl, by rw [hn.out]; congr 1 <;> omega, he, x1, x2, xl⟩
          case measure => simp [intOf]
        · have hn := Lib.hid (cnt_n k1.out hs)
          go_wp2_with fail
          go_roundw
          case rel => exact ⟨2, by omega, rfl, by rw [hn.out], he, x1, x2, xl⟩
          case measure => simp [intOf]
      · by_cases hs : 30 < x.score
        · have hn := Lib.hid (cnt_y k2.out hs)
          go_wp2_with fail
          go_roundw
          case rel => exact ⟨3, by omega, rfl, by rw [hn.out]; congr 1 <;> omega, he, x1, x2, xl⟩
          case measure => simp [intOf]
        · have hn := Lib.hid (cnt_n k2.out hs)
          go_wp2_with fail
          go_roundw
          case rel => exact ⟨3, by omega, rfl, by rw [hn.out], he, x1, x2, xl⟩
          case measure => simp [intOf]
      · rcases Int.lt_or_le (1 + cnt x 3 + x.quality - 2) 1 with h1 | h1
        · have hv : Hid (1 = classV x) := by show _ = _; rw [hcl.out]; unfold clampV; rw [if_pos h1]
          go_wp2_with fail
          go_ret
          exact ⟨ret_int hv.out, he⟩
        · rcases Int.lt_or_le 4 (1 + cnt x 3 + x.quality - 2) with h2 | h2
          · have hv : Hid (4 = classV x) := by show _ = _; rw [hcl.out]; unfold clampV; rw [if_neg (by omega), if_pos h2]
            go_wp2_with fail
            go_ret
            exact ⟨ret_int hv.out, he⟩
          · have hv : Hid (1 + cnt x 3 + x.quality - 2 = classV x) := by show _ = _; rw [hcl.out]; unfold clampV; rw [if_neg (by omega), if_neg (by omega)]
            go_wp2_with fail
            go_ret
            exact ⟨ret_int hv.out, he⟩
  · have k0 : Hid (lim x.kind 0 = 2) := by show _ = _; rw [hk]; rfl
    have k1 : Hid (lim x.kind 1 = 4) := by show _ = _; rw [hk]; rfl
    have k2 : Hid (lim x.kind 2 = 6) := by show _ = _; rw [hk]; rfl
    have hcl : Hid (classV x = clampV (1 + cnt x 3 + x.quality - 2)) := rfl
    have hkh := Lib.hid hk
    have hb3 := cnt_bd x 3
    have hix : ∀ w : World, (Instr.index 81 (.agg #[.int .i64 0, .int .i64 0, .int .i64 0, .int .i64 10, .int .i64 20, .int .i64 30, .int .i64 13, .int .i64 22, .int .i64 30, .int .i64 2, .int .i64 4, .int .i64 6]) (.int .i64 3)).run Try.prog w = .ok (.agg #[.int .i64 2, .int .i64 4, .int .i64 6]) w := fun w => by kernel_rfl
    have hi0 : ∀ w : World, (Instr.index 80 (.agg #[.int .i64 2, .int .i64 4, .int .i64 6]) (.int .i64 0)).run Try.prog w = .ok (.int .i64 2) w := fun w => by kernel_rfl
    have hi1 : ∀ w : World, (Instr.index 80 (.agg #[.int .i64 2, .int .i64 4, .int .i64 6]) (.int .i64 1)).run Try.prog w = .ok (.int .i64 4) w := fun w => by kernel_rfl
    have hi2 : ∀ w : World, (Instr.index 80 (.agg #[.int .i64 2, .int .i64 4, .int .i64 6]) (.int .i64 2)).run Try.prog w = .ok (.int .i64 6) w := fun w => by kernel_rfl
    rw [hk]
    clear hk
    go_enter Try.func40, Try.ntmps40
    go_wp2_with fail
    go_loopw [4, 15] (fun c i wr => ∃ j : Nat, j ≤ 3 ∧ i = .int .i64 j ∧ c = .int .i64 (1 + cnt x j) ∧ Ext w wr ∧ wr.cell? ⟨w.heap.size, 1, none⟩ = some (.int .i64 x.score) ∧ wr.cell? ⟨w.heap.size, 2, none⟩ = some (.int .i64 x.quality) ∧ w.heap.size < wr.heap.size) (fun _ i _ => 3 - (intOf i).toNat)
    case atStart => exact ⟨0, by omega, rfl, by simp [cnt], (by repeat (first | exact Ext.refl _ | refine Ext.lift ?_ _ | refine Ext.alloc ?_ _)), by go_simp, by go_simp, by first | (simp; done) | (simp; omega) | (rw [size_new]; omega)⟩
    case round =>
      obtain ⟨j, hj, rfl, rfl, he, x1, x2, xl⟩ := hrel
      have hbj := cnt_bd x j
      rcases (show j = 0 ∨ j = 1 ∨ j = 2 ∨ j = 3 by omega) with rfl | rfl | rfl | rfl
      · by_cases hs : 2 < x.score
        · have hn := Lib.hid (cnt_y k0.out hs)
          go_wp2_with fail
          go_roundw
          case rel => exact ⟨1, by omega, rfl, by rw [hn.out]; congr 1 <;> omega, he, x1, x2, xl⟩
          case measure => simp [intOf]
        · have hn := Lib.hid (cnt_n k0.out hs)
          go_wp2_with fail
          go_roundw
          case rel => exact ⟨1, by omega, rfl, by rw [hn.out], he, x1, x2, xl⟩
          case measure => simp [intOf]
      · by_cases hs : 4 < x.score
        · have hn := Lib.hid (cnt_y k1.out hs)
          go_wp2_with fail
          go_roundw
          case rel => exact ⟨2, by omega, rfl, by rw [hn.out]; congr 1 <;> omega, he, x1, x2, xl⟩
          case measure => simp [intOf]
        · have hn := Lib.hid (cnt_n k1.out hs)
          go_wp2_with fail
          go_roundw
          case rel => exact ⟨2, by omega, rfl, by rw [hn.out], he, x1, x2, xl⟩
          case measure => simp [intOf]
      · by_cases hs : 6 < x.score
        · have hn := Lib.hid (cnt_y k2.out hs)
          go_wp2_with fail
          go_roundw
          case rel => exact ⟨3, by omega, rfl, by rw [hn.out]; congr 1 <;> omega, he, x1, x2, xl⟩
          case measure => simp [intOf]
        · have hn := Lib.hid (cnt_n k2.out hs)
          go_wp2_with fail
          go_roundw
          case rel => exact ⟨3, by omega, rfl, by rw [hn.out], he, x1, x2, xl⟩
          case measure => simp [intOf]
      · rcases Int.lt_or_le (1 + cnt x 3 + x.quality - 2) 1 with h1 | h1
        · have hv : Hid (1 = classV x) := by show _ = _; rw [hcl.out]; unfold clampV; rw [if_pos h1]
          go_wp2_with fail
          go_ret
          exact ⟨ret_int hv.out, he⟩
        · rcases Int.lt_or_le 4 (1 + cnt x 3 + x.quality - 2) with h2 | h2
          · have hv : Hid (4 = classV x) := by show _ = _; rw [hcl.out]; unfold clampV; rw [if_neg (by omega), if_pos h2]
            go_wp2_with fail
            go_ret
            exact ⟨ret_int hv.out, he⟩
          · have hv : Hid (1 + cnt x 3 + x.quality - 2 = classV x) := by show _ = _; rw [hcl.out]; unfold clampV; rw [if_neg (by omega), if_neg (by omega)]
            go_wp2_with fail
            go_ret
            exact ⟨ret_int hv.out, he⟩
theorem l00MaxC_any (a b : Int) (w : World) : Calls Try.prog 56 #[.int .i64 a, .int .i64 b] w fun e w' => e = .returned (.int .i64 (if b < a then a else b)) ∧ w' = w := by
  by_cases h : b < a
  · rw [if_pos h]
    go_enter Try.func56, Try.ntmps56
    go_wp2
    go_ret
    exact ⟨rfl, rfl⟩
  · rw [if_neg h]
    go_enter Try.func56, Try.ntmps56
    go_wp2
    go_ret
    exact ⟨rfl, rfl⟩
theorem l00MinC_any (a b : Int) (w : World) : Calls Try.prog 57 #[.int .i64 a, .int .i64 b] w fun e w' => e = .returned (.int .i64 (if a < b then a else b)) ∧ w' = w := by
  by_cases h : a < b
  · rw [if_pos h]
    go_enter Try.func57, Try.ntmps57
    go_wp2
    go_ret
    exact ⟨rfl, rfl⟩
  · rw [if_neg h]
    go_enter Try.func57, Try.ntmps57
    go_wp2
    go_ret
    exact ⟨rfl, rfl⟩
set_option maxRecDepth 100000 in
set_option maxHeartbeats 4000000 in
theorem l08Class_any (b o : Nat) (x : Test) (w : World) (hx : testB x = true) (c0 : w.cell? ⟨b, o, none⟩ = some (.int .i64 x.kind)) (c1 : w.cell? ⟨b, o + 1, none⟩ = some (.int .i64 x.score)) (c2 : w.cell? ⟨b, o + 2, none⟩ = some (.int .i64 x.quality)) :
    Gives Try.prog 43 #[.pointer (some ⟨b, o, none⟩)] w (.int .i64 (classV x)) := by
  unfold Gives
  have hbl := block_lt c0
  obtain ⟨⟨q0, q1⟩, -, -, ⟨k0, k1⟩, ⟨s0, s1⟩⟩ := testB_bd hx
  clear hx
  rcases (show x.kind = 1 ∨ x.kind = 2 ∨ x.kind = 3 by omega) with hk | hk | hk
  all_goals clear k0 k1
  · have k0 : Hid (lim x.kind 0 = 10) := by show _ = _; rw [hk]; rfl
    have k1 : Hid (lim x.kind 1 = 20) := by show _ = _; rw [hk]; rfl
    have k2 : Hid (lim x.kind 2 = 30) := by show _ = _; rw [hk]; rfl
    have hcl : Hid (classV x = clampV (1 + cnt x 3 + x.quality - 2)) := rfl
    have hb3 := cnt_bd x 3
    obtain ⟨W, hW⟩ : ∃ W : World, W = w.alloc (.cells #[.int .i64 10, .int .i64 20, .int .i64 30] 2) := ⟨_, rfl⟩
    have EW : Ext w W := by rw [hW]; exact (by repeat (first | exact Ext.refl _ | refine Ext.lift ?_ _ | refine Ext.alloc ?_ _))
    have hG : w.heap.size < W.heap.size := by rw [hW]; simp
    have g0 : W.cell? ⟨w.heap.size, 0, none⟩ = some (.int .i64 10) := by rw [hW]; go_simp
    have g1 : W.cell? ⟨w.heap.size, 1, none⟩ = some (.int .i64 20) := by rw [hW]; go_simp
    have g2 : W.cell? ⟨w.heap.size, 2, none⟩ = some (.int .i64 30) := by rw [hW]; go_simp
    have HW := Lib.hid hW
    have HC1 := Lib.hid (EW.cell c1)
    have HC2 := Lib.hid (EW.cell c2)
    have hbW := Nat.lt_of_lt_of_le hbl EW.size
    have HG0 := Lib.hid g0
    have HG1 := Lib.hid g1
    have HG2 := Lib.hid g2
    rw [hk] at c0
    clear hk hW g0 g1 g2
    go_enter Try.func43, Try.ntmps43
    go_wp2_with fail
    rw [← HW.out]
    clear c0 c1 c2 hbl
    go_loopw [4, 5] (fun c i wr => ∃ j : Nat, j ≤ 3 ∧ i = .int .i64 j ∧ c = .int .i64 (1 + cnt x j) ∧ Ext W wr) (fun _ i _ => 3 - (intOf i).toNat)
    case atStart => exact ⟨0, by omega, rfl, by simp [cnt], Ext.refl _⟩
    case round =>
      obtain ⟨j, hj, rfl, rfl, he⟩ := hrel
      have c1 := he.cell HC1.out
      have c2 := he.cell HC2.out
      have g0 := he.cell HG0.out
      have g1 := he.cell HG1.out
      have g2 := he.cell HG2.out
      have hb2 := Nat.lt_of_lt_of_le hbW he.size
      have hg2 := Nat.lt_of_lt_of_le hG he.size
      have hbj := cnt_bd x j
      rcases (show j = 0 ∨ j = 1 ∨ j = 2 ∨ j = 3 by omega) with rfl | rfl | rfl | rfl
      · by_cases hs : 10 < x.score
        · have hn := Lib.hid (cnt_y k0.out hs)
          go_wp2_with fail
          refine region_quiet (by kernel_rfl) (by kernel_rfl) ?_
          repeat (any_goals (first | go_big_quiet_step ((fail)) | quiet_step ((fail))))
          refine wpQuiet_nil ?_
          intro _ hw'
          obtain ⟨y, hw''⟩ := hw'
          subst hw''
          go_wp2_with fail
          go_roundw
          case rel => exact ⟨1, by omega, rfl, by rw [hn.out]; congr 1 <;> omega, he.lift y⟩
          case measure => simp [intOf]
        · have hn := Lib.hid (cnt_n k0.out hs)
          go_wp2_with fail
          refine region_quiet (by kernel_rfl) (by kernel_rfl) ?_
          repeat (any_goals (first | go_big_quiet_step ((fail)) | quiet_step ((fail))))
          refine wpQuiet_nil ?_
          intro _ hw'
          obtain ⟨y, hw''⟩ := hw'
          subst hw''
          go_wp2_with fail
          go_roundw
          case rel => exact ⟨1, by omega, rfl, by rw [hn.out], he.lift y⟩
          case measure => simp [intOf]
      · by_cases hs : 20 < x.score
        · have hn := Lib.hid (cnt_y k1.out hs)
          go_wp2_with fail
          refine region_quiet (by kernel_rfl) (by kernel_rfl) ?_
          repeat (any_goals (first | go_big_quiet_step ((fail)) | quiet_step ((fail))))
          refine wpQuiet_nil ?_
          intro _ hw'
          obtain ⟨y, hw''⟩ := hw'
          subst hw''
          go_wp2_with fail
          go_roundw
          case rel => exact ⟨2, by omega, rfl, by rw [hn.out]; congr 1 <;> omega, he.lift y⟩
          case measure => simp [intOf]
        · have hn := Lib.hid (cnt_n k1.out hs)
          go_wp2_with fail
          refine region_quiet (by kernel_rfl) (by kernel_rfl) ?_
          repeat (any_goals (first | go_big_quiet_step ((fail)) | quiet_step ((fail))))
          refine wpQuiet_nil ?_
          intro _ hw'
          obtain ⟨y, hw''⟩ := hw'
          subst hw''
          go_wp2_with fail
          go_roundw
          case rel => exact ⟨2, by omega, rfl, by rw [hn.out], he.lift y⟩
          case measure => simp [intOf]
      · by_cases hs : 30 < x.score
        · have hn := Lib.hid (cnt_y k2.out hs)
          go_wp2_with fail
          refine region_quiet (by kernel_rfl) (by kernel_rfl) ?_
          repeat (any_goals (first | go_big_quiet_step ((fail)) | quiet_step ((fail))))
          refine wpQuiet_nil ?_
          intro _ hw'
          obtain ⟨y, hw''⟩ := hw'
          subst hw''
          go_wp2_with fail
          go_roundw
          case rel => exact ⟨3, by omega, rfl, by rw [hn.out]; congr 1 <;> omega, he.lift y⟩
          case measure => simp [intOf]
        · have hn := Lib.hid (cnt_n k2.out hs)
          go_wp2_with fail
          refine region_quiet (by kernel_rfl) (by kernel_rfl) ?_
          repeat (any_goals (first | go_big_quiet_step ((fail)) | quiet_step ((fail))))
          refine wpQuiet_nil ?_
          intro _ hw'
          obtain ⟨y, hw''⟩ := hw'
          subst hw''
          go_wp2_with fail
          go_roundw
          case rel => exact ⟨3, by omega, rfl, by rw [hn.out], he.lift y⟩
          case measure => simp [intOf]
      · have hv : Hid ((if (if 4 < 1 + cnt x 3 + x.quality - 2 then (4 : Int) else 1 + cnt x 3 + x.quality - 2) < 1 then 1 else (if 4 < 1 + cnt x 3 + x.quality - 2 then 4 else 1 + cnt x 3 + x.quality - 2)) = classV x) := by
          show _ = _
          rw [hcl.out]
          unfold clampV
          split <;> split <;> omega
        go_wp2_with (first | (go_at_call 57; refine (l00MinC_any _ _ _).mono ?_; rintro e w' ⟨rfl, hw⟩; subst hw; obtain ⟨M, hM⟩ : ∃ M, M = (if 4 < 1 + cnt x 3 + x.quality - 2 then (4 : Int) else 1 + cnt x 3 + x.quality - 2) := ⟨_, rfl⟩; have HM := Lib.hid hM; rw [← hM] at hv ⊢; clear hM) | (go_at_call 56; refine (l00MaxC_any _ _ _).mono ?_; rintro e w' ⟨rfl, hw⟩; subst hw; rw [hv.out]))
        go_ret
        exact ⟨rfl, EW.trans he⟩
  · have k0 : Hid (lim x.kind 0 = 13) := by show _ = _; rw [hk]; rfl
    have k1 : Hid (lim x.kind 1 = 22) := by show _ = _; rw [hk]; rfl
    have k2 : Hid (lim x.kind 2 = 30) := by show _ = _; rw [hk]; rfl
    have hcl : Hid (classV x = clampV (1 + cnt x 3 + x.quality - 2)) := rfl
    have hb3 := cnt_bd x 3
    obtain ⟨W, hW⟩ : ∃ W : World, W = (w.alloc (.cells #[.int .i64 10, .int .i64 20, .int .i64 30] 2)).alloc (.cells #[.int .i64 13, .int .i64 22, .int .i64 30] 2) := ⟨_, rfl⟩
    have EW : Ext w W := by rw [hW]; exact (by repeat (first | exact Ext.refl _ | refine Ext.lift ?_ _ | refine Ext.alloc ?_ _))
    have hG : (w.heap.size + 1) < W.heap.size := by rw [hW]; simp
    have g0 : W.cell? ⟨(w.heap.size + 1), 0, none⟩ = some (.int .i64 13) := by rw [hW]; go_simp
    have g1 : W.cell? ⟨(w.heap.size + 1), 1, none⟩ = some (.int .i64 22) := by rw [hW]; go_simp
    have g2 : W.cell? ⟨(w.heap.size + 1), 2, none⟩ = some (.int .i64 30) := by rw [hW]; go_simp
    have HW := Lib.hid hW
    have HC1 := Lib.hid (EW.cell c1)
    have HC2 := Lib.hid (EW.cell c2)
    have hbW := Nat.lt_of_lt_of_le hbl EW.size
    have HG0 := Lib.hid g0
    have HG1 := Lib.hid g1
    have HG2 := Lib.hid g2
    rw [hk] at c0
    clear hk hW g0 g1 g2
    go_enter Try.func43, Try.ntmps43
    go_wp2_with fail
    rw [← HW.out]
    clear c0 c1 c2 hbl
    go_loopw [4, 5] (fun c i wr => ∃ j : Nat, j ≤ 3 ∧ i = .int .i64 j ∧ c = .int .i64 (1 + cnt x j) ∧ Ext W wr) (fun _ i _ => 3 - (intOf i).toNat)
    case atStart => exact ⟨0, by omega, rfl, by simp [cnt], Ext.refl _⟩
    case round =>
      obtain ⟨j, hj, rfl, rfl, he⟩ := hrel
      have c1 := he.cell HC1.out
      have c2 := he.cell HC2.out
      have g0 := he.cell HG0.out
      have g1 := he.cell HG1.out
      have g2 := he.cell HG2.out
      have hb2 := Nat.lt_of_lt_of_le hbW he.size
      have hg2 := Nat.lt_of_lt_of_le hG he.size
      have hbj := cnt_bd x j
      rcases (show j = 0 ∨ j = 1 ∨ j = 2 ∨ j = 3 by omega) with rfl | rfl | rfl | rfl
      · by_cases hs : 13 < x.score
        · have hn := Lib.hid (cnt_y k0.out hs)
          go_wp2_with fail
          refine region_quiet (by kernel_rfl) (by kernel_rfl) ?_
          repeat (any_goals (first | go_big_quiet_step ((fail)) | quiet_step ((fail))))
          refine wpQuiet_nil ?_
          intro _ hw'
          obtain ⟨y, hw''⟩ := hw'
          subst hw''
          go_wp2_with fail
          go_roundw
          case rel => exact ⟨1, by omega, rfl, by rw [hn.out]; congr 1 <;> omega, he.lift y⟩
          case measure => simp [intOf]
        · have hn := Lib.hid (cnt_n k0.out hs)
          go_wp2_with fail
          refine region_quiet (by kernel_rfl) (by kernel_rfl) ?_
          repeat (any_goals (first | go_big_quiet_step ((fail)) | quiet_step ((fail))))
          refine wpQuiet_nil ?_
          intro _ hw'
          obtain ⟨y, hw''⟩ := hw'
          subst hw''
          go_wp2_with fail
          go_roundw
          case rel => exact ⟨1, by omega, rfl, by rw [hn.out], he.lift y⟩
          case measure => simp [intOf]
      · by_cases hs : 22 < x.score
        · have hn := Lib.hid (cnt_y k1.out hs)
          go_wp2_with fail
          refine region_quiet (by kernel_rfl) (by kernel_rfl) ?_
          repeat (any_goals (first | go_big_quiet_step ((fail)) | quiet_step ((fail))))
          refine wpQuiet_nil ?_
          intro _ hw'
          obtain ⟨y, hw''⟩ := hw'
          subst hw''
          go_wp2_with fail
          go_roundw
          case rel => exact ⟨2, by omega, rfl, by rw [hn.out]; congr 1 <;> omega, he.lift y⟩
          case measure => simp [intOf]
        · have hn := Lib.hid (cnt_n k1.out hs)
          go_wp2_with fail
          refine region_quiet (by kernel_rfl) (by kernel_rfl) ?_
          repeat (any_goals (first | go_big_quiet_step ((fail)) | quiet_step ((fail))))
          refine wpQuiet_nil ?_
          intro _ hw'
          obtain ⟨y, hw''⟩ := hw'
          subst hw''
          go_wp2_with fail
          go_roundw
          case rel => exact ⟨2, by omega, rfl, by rw [hn.out], he.lift y⟩
          case measure => simp [intOf]
      · by_cases hs : 30 < x.score
        · have hn := Lib.hid (cnt_y k2.out hs)
          go_wp2_with fail
          refine region_quiet (by kernel_rfl) (by kernel_rfl) ?_
          repeat (any_goals (first | go_big_quiet_step ((fail)) | quiet_step ((fail))))
          refine wpQuiet_nil ?_
          intro _ hw'
          obtain ⟨y, hw''⟩ := hw'
          subst hw''
          go_wp2_with fail
          go_roundw
          case rel => exact ⟨3, by omega, rfl, by rw [hn.out]; congr 1 <;> omega, he.lift y⟩
          case measure => simp [intOf]
        · have hn := Lib.hid (cnt_n k2.out hs)
          go_wp2_with fail
          refine region_quiet (by kernel_rfl) (by kernel_rfl) ?_
          repeat (any_goals (first | go_big_quiet_step ((fail)) | quiet_step ((fail))))
          refine wpQuiet_nil ?_
          intro _ hw'
          obtain ⟨y, hw''⟩ := hw'
          subst hw''
          go_wp2_with fail
          go_roundw
          case rel => exact ⟨3, by omega, rfl, by rw [hn.out], he.lift y⟩
          case measure => simp [intOf]
      · have hv : Hid ((if (if 4 < 1 + cnt x 3 + x.quality - 2 then (4 : Int) else 1 + cnt x 3 + x.quality - 2) < 1 then 1 else (if 4 < 1 + cnt x 3 + x.quality - 2 then 4 else 1 + cnt x 3 + x.quality - 2)) = classV x) := by
          show _ = _
          rw [hcl.out]
          unfold clampV
          split <;> split <;> omega
        go_wp2_with (first | (go_at_call 57; refine (l00MinC_any _ _ _).mono ?_; rintro e w' ⟨rfl, hw⟩; subst hw; obtain ⟨M, hM⟩ : ∃ M, M = (if 4 < 1 + cnt x 3 + x.quality - 2 then (4 : Int) else 1 + cnt x 3 + x.quality - 2) := ⟨_, rfl⟩; have HM := Lib.hid hM; rw [← hM] at hv ⊢; clear hM) | (go_at_call 56; refine (l00MaxC_any _ _ _).mono ?_; rintro e w' ⟨rfl, hw⟩; subst hw; rw [hv.out]))
        go_ret
        exact ⟨rfl, EW.trans he⟩
  · have k0 : Hid (lim x.kind 0 = 2) := by show _ = _; rw [hk]; rfl
    have k1 : Hid (lim x.kind 1 = 4) := by show _ = _; rw [hk]; rfl
    have k2 : Hid (lim x.kind 2 = 6) := by show _ = _; rw [hk]; rfl
    have hcl : Hid (classV x = clampV (1 + cnt x 3 + x.quality - 2)) := rfl
    have hb3 := cnt_bd x 3
    obtain ⟨W, hW⟩ : ∃ W : World, W = (w.alloc (.cells #[.int .i64 10, .int .i64 20, .int .i64 30] 2)).alloc (.cells #[.int .i64 2, .int .i64 4, .int .i64 6] 2) := ⟨_, rfl⟩
    have EW : Ext w W := by rw [hW]; exact (by repeat (first | exact Ext.refl _ | refine Ext.lift ?_ _ | refine Ext.alloc ?_ _))
    have hG : (w.heap.size + 1) < W.heap.size := by rw [hW]; simp
    have g0 : W.cell? ⟨(w.heap.size + 1), 0, none⟩ = some (.int .i64 2) := by rw [hW]; go_simp
    have g1 : W.cell? ⟨(w.heap.size + 1), 1, none⟩ = some (.int .i64 4) := by rw [hW]; go_simp
    have g2 : W.cell? ⟨(w.heap.size + 1), 2, none⟩ = some (.int .i64 6) := by rw [hW]; go_simp
    have HW := Lib.hid hW
    have HC1 := Lib.hid (EW.cell c1)
    have HC2 := Lib.hid (EW.cell c2)
    have hbW := Nat.lt_of_lt_of_le hbl EW.size
    have HG0 := Lib.hid g0
    have HG1 := Lib.hid g1
    have HG2 := Lib.hid g2
    rw [hk] at c0
    clear hk hW g0 g1 g2
    go_enter Try.func43, Try.ntmps43
    go_wp2_with fail
    rw [← HW.out]
    clear c0 c1 c2 hbl
    go_loopw [4, 5] (fun c i wr => ∃ j : Nat, j ≤ 3 ∧ i = .int .i64 j ∧ c = .int .i64 (1 + cnt x j) ∧ Ext W wr) (fun _ i _ => 3 - (intOf i).toNat)
    case atStart => exact ⟨0, by omega, rfl, by simp [cnt], Ext.refl _⟩
    case round =>
      obtain ⟨j, hj, rfl, rfl, he⟩ := hrel
      have c1 := he.cell HC1.out
      have c2 := he.cell HC2.out
      have g0 := he.cell HG0.out
      have g1 := he.cell HG1.out
      have g2 := he.cell HG2.out
      have hb2 := Nat.lt_of_lt_of_le hbW he.size
      have hg2 := Nat.lt_of_lt_of_le hG he.size
      have hbj := cnt_bd x j
      rcases (show j = 0 ∨ j = 1 ∨ j = 2 ∨ j = 3 by omega) with rfl | rfl | rfl | rfl
      · by_cases hs : 2 < x.score
        · have hn := Lib.hid (cnt_y k0.out hs)
          go_wp2_with fail
          refine region_quiet (by kernel_rfl) (by kernel_rfl) ?_
          repeat (any_goals (first | go_big_quiet_step ((fail)) | quiet_step ((fail))))
          refine wpQuiet_nil ?_
          intro _ hw'
          obtain ⟨y, hw''⟩ := hw'
          subst hw''
          go_wp2_with fail
          go_roundw
          case rel => exact ⟨1, by omega, rfl, by rw [hn.out]; congr 1 <;> omega, he.lift y⟩
          case measure => simp [intOf]
        · have hn := Lib.hid (cnt_n k0.out hs)
          go_wp2_with fail
          refine region_quiet (by kernel_rfl) (by kernel_rfl) ?_
          repeat (any_goals (first | go_big_quiet_step ((fail)) | quiet_step ((fail))))
          refine wpQuiet_nil ?_
          intro _ hw'
          obtain ⟨y, hw''⟩ := hw'
          subst hw''
          go_wp2_with fail
          go_roundw
          case rel => exact ⟨1, by omega, rfl, by rw [hn.out], he.lift y⟩
          case measure => simp [intOf]
      · by_cases hs : 4 < x.score
        · have hn := Lib.hid (cnt_y k1.out hs)
          go_wp2_with fail
          refine region_quiet (by kernel_rfl) (by kernel_rfl) ?_
          repeat (any_goals (first | go_big_quiet_step ((fail)) | quiet_step ((fail))))
          refine wpQuiet_nil ?_
          intro _ hw'
          obtain ⟨y, hw''⟩ := hw'
          subst hw''
          go_wp2_with fail
          go_roundw
          case rel => exact ⟨2, by omega, rfl, by rw [hn.out]; congr 1 <;> omega, he.lift y⟩
          case measure => simp [intOf]
        · have hn := Lib.hid (cnt_n k1.out hs)
          go_wp2_with fail
          refine region_quiet (by kernel_rfl) (by kernel_rfl) ?_
          repeat (any_goals (first | go_big_quiet_step ((fail)) | quiet_step ((fail))))
          refine wpQuiet_nil ?_
          intro _ hw'
          obtain ⟨y, hw''⟩ := hw'
          subst hw''
          go_wp2_with fail
          go_roundw
          case rel => exact ⟨2, by omega, rfl, by rw [hn.out], he.lift y⟩
          case measure => simp [intOf]
      · by_cases hs : 6 < x.score
        · have hn := Lib.hid (cnt_y k2.out hs)
          go_wp2_with fail
          refine region_quiet (by kernel_rfl) (by kernel_rfl) ?_
          repeat (any_goals (first | go_big_quiet_step ((fail)) | quiet_step ((fail))))
          refine wpQuiet_nil ?_
          intro _ hw'
          obtain ⟨y, hw''⟩ := hw'
          subst hw''
          go_wp2_with fail
          go_roundw
          case rel => exact ⟨3, by omega, rfl, by rw [hn.out]; congr 1 <;> omega, he.lift y⟩
          case measure => simp [intOf]
        · have hn := Lib.hid (cnt_n k2.out hs)
          go_wp2_with fail
          refine region_quiet (by kernel_rfl) (by kernel_rfl) ?_
          repeat (any_goals (first | go_big_quiet_step ((fail)) | quiet_step ((fail))))
          refine wpQuiet_nil ?_
          intro _ hw'
          obtain ⟨y, hw''⟩ := hw'
          subst hw''
          go_wp2_with fail
          go_roundw
          case rel => exact ⟨3, by omega, rfl, by rw [hn.out], he.lift y⟩
          case measure => simp [intOf]
      · have hv : Hid ((if (if 4 < 1 + cnt x 3 + x.quality - 2 then (4 : Int) else 1 + cnt x 3 + x.quality - 2) < 1 then 1 else (if 4 < 1 + cnt x 3 + x.quality - 2 then 4 else 1 + cnt x 3 + x.quality - 2)) = classV x) := by
          show _ = _
          rw [hcl.out]
          unfold clampV
          split <;> split <;> omega
        go_wp2_with (first | (go_at_call 57; refine (l00MinC_any _ _ _).mono ?_; rintro e w' ⟨rfl, hw⟩; subst hw; obtain ⟨M, hM⟩ : ∃ M, M = (if 4 < 1 + cnt x 3 + x.quality - 2 then (4 : Int) else 1 + cnt x 3 + x.quality - 2) := ⟨_, rfl⟩; have HM := Lib.hid hM; rw [← hM] at hv ⊢; clear hM) | (go_at_call 56; refine (l00MaxC_any _ _ _).mono ?_; rintro e w' ⟨rfl, hw⟩; subst hw; rw [hv.out]))
        go_ret
        exact ⟨rfl, EW.trans he⟩
end Go.Proofs.Ytdopffhekinbnaa

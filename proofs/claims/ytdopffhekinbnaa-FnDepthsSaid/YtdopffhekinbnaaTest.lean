/- A test: when it is valid. What the program's and the reference's functions say. -/
import Derived.Test.YtdopffhekinbnaaAnd
import Derived.Test.YtdopffhekinbnaaLists
import Derived.Test.YtdopffhekinbnaaGrow
namespace Go.Proofs.Ytdopffhekinbnaa
open Go.RowKit
structure Test where
  kind : Int
  score : Int
  quality : Int
  depth : Int
  hour : Int
instance : Inhabited Test := ⟨⟨0, 0, 0, 0, 0⟩⟩
def Test.cell (x : Test) : Nat → Value
  | 0 => .int .i64 x.kind
  | 1 => .int .i64 x.score
  | 2 => .int .i64 x.quality
  | 3 => .int .i64 x.depth
  | _ => .int .i64 x.hour
def Test.val (x : Test) : Value := .agg #[.int .i64 x.kind, .int .i64 x.score, .int .i64 x.quality, .int .i64 x.depth, .int .i64 x.hour]
/-- A slice of these begins at a, and its elements hold l. -/
abbrev TestAt (w : World) (a : Option Addr) (l : List Test) : Prop := RowsAt 5 Test.cell w a l
theorem Test.at {w : World} {b off : Nat} {l : List Test} (h : TestAt w (some ⟨b, off, none⟩) l) (k : Nat) (hk : k < l.length) :
    b < w.heap.size ∧ w.cell? ⟨b, off + k * 5, none⟩ = some (.int .i64 (nth l k).kind) ∧ w.cell? ⟨b, off + k * 5 + 1, none⟩ = some (.int .i64 (nth l k).score) ∧ w.cell? ⟨b, off + k * 5 + 2, none⟩ = some (.int .i64 (nth l k).quality) ∧ w.cell? ⟨b, off + k * 5 + 3, none⟩ = some (.int .i64 (nth l k).depth) ∧ w.cell? ⟨b, off + k * 5 + 4, none⟩ = some (.int .i64 (nth l k).hour) :=
  let h' := RowsAt.at h k hk; ⟨h'.1, h'.2 0 (by decide), h'.2 1 (by decide), h'.2 2 (by decide), h'.2 3 (by decide), h'.2 4 (by decide)⟩
/-- The lengths of the strings that come in are those of strings that fit in memory. -/
def Test.Sz (_x : Test) : Prop := True
def Test.Small (_x : Test) : Prop := True
def Test.Wf (x : Test) : Prop := (-9223372036854775808 ≤ x.kind ∧ x.kind ≤ 9223372036854775807) ∧ (-9223372036854775808 ≤ x.score ∧ x.score ≤ 9223372036854775807) ∧ (-9223372036854775808 ≤ x.quality ∧ x.quality ≤ 9223372036854775807) ∧ (-9223372036854775808 ≤ x.depth ∧ x.depth ≤ 9223372036854775807) ∧ (-9223372036854775808 ≤ x.hour ∧ x.hour ≤ 9223372036854775807)
def scoreB (kind score : Int) : Bool := if kind = 1 then inB score 0 31 else if kind = 2 then inB score 0 31 else if kind = 3 then inB score 1 7 else false
theorem kinds4 (k : Int) : k = 1 ∨ k = 2 ∨ k = 3 ∨ (k ≠ 1 ∧ k ≠ 2 ∧ k ≠ 3) := by omega
theorem hourOk_any (n : Int) (w : World) : Calls Try.prog 58 #[.int .i64 n] w fun e w' => e = .returned (.bool (inB n 0 100000)) ∧ w' = w := by
  go_enter Try.func58, Try.ntmps58
  go_wp2_with (go_at_call 46; refine (within_any _ _ _ _).mono ?_; rintro e w' ⟨rfl, rfl⟩)
  go_ret
  exact ⟨rfl, rfl⟩
theorem l04Hour_any (n : Int) (w : World) : Calls Try.prog 55 #[.int .i64 n] w fun e w' => e = .returned (.bool (inB n 0 100000)) ∧ w' = w := by
  go_enter Try.func55, Try.ntmps55
  go_wp2_with (go_at_call 44; refine (l00In_any _ _ _ _).mono ?_; rintro e w' ⟨rfl, rfl⟩)
  go_ret
  exact ⟨rfl, rfl⟩
def testB (x : Test) : Bool := inB x.quality 1 3 && inB x.depth 1 300 && inB x.hour 0 100000 && scoreB x.kind x.score
theorem testB_bd {x : Test} (h : testB x = true) : (1 ≤ x.quality ∧ x.quality ≤ 3) ∧ (1 ≤ x.depth ∧ x.depth ≤ 300) ∧ (0 ≤ x.hour ∧ x.hour ≤ 100000) ∧ (1 ≤ x.kind ∧ x.kind ≤ 3) ∧ (0 ≤ x.score ∧ x.score ≤ 31) := by
  unfold testB at h; simp only [Bool.and_eq_true, inB_iff] at h
  have hs := h.2
  unfold scoreB at hs
  rcases kinds4 x.kind with hk | hk | hk | ⟨h1, h2, h3⟩
  · rw [if_pos hk, inB_iff] at hs; exact ⟨h.1.1.1, h.1.1.2, h.1.2, by omega, by omega⟩
  · rw [if_neg (by omega), if_pos hk, inB_iff] at hs; exact ⟨h.1.1.1, h.1.1.2, h.1.2, by omega, by omega⟩
  · rw [if_neg (by omega), if_neg (by omega), if_pos hk, inB_iff] at hs; exact ⟨h.1.1.1, h.1.1.2, h.1.2, by omega, by omega⟩
  · rw [if_neg h1, if_neg h2, if_neg h3] at hs; cases hs
set_option maxRecDepth 100000 in
set_option maxHeartbeats 2000000 in
theorem Test_valid (x : Test) (w : World)  :
    Gives Try.prog 45 #[.agg #[.int .i64 x.kind, .int .i64 x.score, .int .i64 x.quality, .int .i64 x.depth, .int .i64 x.hour]] w (.bool (testB x)) := by
  have H : Hid (testB x = (inB x.quality 1 3 && inB x.depth 1 300 && inB x.hour 0 100000 && scoreB x.kind x.score)) := rfl
  unfold Gives
  rcases and4 (inB x.quality 1 3) (inB x.depth 1 300) (inB x.hour 0 100000) with h0 | ⟨h0, h1⟩ | ⟨h0, h1, h2⟩ | ⟨h0, h1, h2⟩
  rotate_left 3
  rcases kinds4 x.kind with hk | hk | hk | ⟨hk1, hk2, hk3⟩
  · have HK : Hid (scoreB x.kind x.score = inB x.score 0 31) := by show _ = _; unfold scoreB; rw [hk]; rfl
    go_enter Try.func45, Try.ntmps45
    go_wp2_with (first | (go_at_call 46; refine (within_any _ _ _ _).mono ?_; rintro e w' ⟨rfl, rfl⟩) | (go_at_call 58; refine (hourOk_any _ _).mono ?_; rintro e w' ⟨rfl, rfl⟩))
    go_ret
    exact ⟨ret_bool (by rw [H.out, HK.out]; simp [*]), (by repeat (first | exact Ext.refl _ | refine Ext.lift ?_ _ | refine Ext.alloc ?_ _))⟩
  · have HK : Hid (scoreB x.kind x.score = inB x.score 0 31) := by show _ = _; unfold scoreB; rw [hk]; rfl
    go_enter Try.func45, Try.ntmps45
    go_wp2_with (first | (go_at_call 46; refine (within_any _ _ _ _).mono ?_; rintro e w' ⟨rfl, rfl⟩) | (go_at_call 58; refine (hourOk_any _ _).mono ?_; rintro e w' ⟨rfl, rfl⟩))
    go_ret
    exact ⟨ret_bool (by rw [H.out, HK.out]; simp [*]), (by repeat (first | exact Ext.refl _ | refine Ext.lift ?_ _ | refine Ext.alloc ?_ _))⟩
  · have HK : Hid (scoreB x.kind x.score = inB x.score 1 7) := by show _ = _; unfold scoreB; rw [hk]; rfl
    go_enter Try.func45, Try.ntmps45
    go_wp2_with (first | (go_at_call 46; refine (within_any _ _ _ _).mono ?_; rintro e w' ⟨rfl, rfl⟩) | (go_at_call 58; refine (hourOk_any _ _).mono ?_; rintro e w' ⟨rfl, rfl⟩))
    go_ret
    exact ⟨ret_bool (by rw [H.out, HK.out]; simp [*]), (by repeat (first | exact Ext.refl _ | refine Ext.lift ?_ _ | refine Ext.alloc ?_ _))⟩
  · have HK : Hid (scoreB x.kind x.score = false) := by show _ = _; unfold scoreB; rw [if_neg hk1, if_neg hk2, if_neg hk3]
    have b1 : (x.kind == 1) = false := beq_eq_false_iff_ne.2 hk1
    have b2 : (x.kind == 2) = false := beq_eq_false_iff_ne.2 hk2
    have b3 : (x.kind == 3) = false := beq_eq_false_iff_ne.2 hk3
    clear hk1 hk2 hk3
    go_enter Try.func45, Try.ntmps45
    go_wp2_with (first | (go_at_call 46; refine (within_any _ _ _ _).mono ?_; rintro e w' ⟨rfl, rfl⟩) | (go_at_call 58; refine (hourOk_any _ _).mono ?_; rintro e w' ⟨rfl, rfl⟩))
    go_ret
    exact ⟨ret_bool (by rw [H.out, HK.out]; simp), (by repeat (first | exact Ext.refl _ | refine Ext.lift ?_ _ | refine Ext.alloc ?_ _))⟩
  all_goals
    go_enter Try.func45, Try.ntmps45
    go_wp2_with (first | (go_at_call 46; refine (within_any _ _ _ _).mono ?_; rintro e w' ⟨rfl, rfl⟩) | (go_at_call 58; refine (hourOk_any _ _).mono ?_; rintro e w' ⟨rfl, rfl⟩))
    go_ret
    exact ⟨ret_bool (by rw [H.out]; simp [*]), (by repeat (first | exact Ext.refl _ | refine Ext.lift ?_ _ | refine Ext.alloc ?_ _))⟩
set_option maxRecDepth 100000 in
set_option maxHeartbeats 2000000 in
theorem l08One_any (b o : Nat) (x : Test) (w : World)  (c0 : w.cell? ⟨b, o, none⟩ = some (.int .i64 x.kind)) (c1 : w.cell? ⟨b, o + 1, none⟩ = some (.int .i64 x.score)) (c2 : w.cell? ⟨b, o + 2, none⟩ = some (.int .i64 x.quality)) (c3 : w.cell? ⟨b, o + 3, none⟩ = some (.int .i64 x.depth)) (c4 : w.cell? ⟨b, o + 4, none⟩ = some (.int .i64 x.hour)) :
    Gives Try.prog 42 #[.pointer (some ⟨b, o, none⟩)] w (.bool (testB x)) := by
  have H : Hid (testB x = (inB x.quality 1 3 && inB x.depth 1 300 && inB x.hour 0 100000 && scoreB x.kind x.score)) := rfl
  have hbl := block_lt c0
  unfold Gives
  rcases and4 (inB x.quality 1 3) (inB x.depth 1 300) (inB x.hour 0 100000) with h0 | ⟨h0, h1⟩ | ⟨h0, h1, h2⟩ | ⟨h0, h1, h2⟩
  rotate_left 3
  rcases kinds4 x.kind with hk | hk | hk | ⟨hk1, hk2, hk3⟩
  · have HK : Hid (scoreB x.kind x.score = inB x.score 0 31) := by show _ = _; unfold scoreB; rw [hk]; rfl
    go_enter Try.func42, Try.ntmps42
    go_wp2_with (first | (go_at_call 44; refine (l00In_any _ _ _ _).mono ?_; rintro e w' ⟨rfl, rfl⟩) | (go_at_call 55; refine (l04Hour_any _ _).mono ?_; rintro e w' ⟨rfl, rfl⟩))
    go_ret
    exact ⟨ret_bool (by rw [H.out, HK.out]; simp [*]), (by repeat (first | exact Ext.refl _ | refine Ext.lift ?_ _ | refine Ext.alloc ?_ _))⟩
  · have HK : Hid (scoreB x.kind x.score = inB x.score 0 31) := by show _ = _; unfold scoreB; rw [hk]; rfl
    go_enter Try.func42, Try.ntmps42
    go_wp2_with (first | (go_at_call 44; refine (l00In_any _ _ _ _).mono ?_; rintro e w' ⟨rfl, rfl⟩) | (go_at_call 55; refine (l04Hour_any _ _).mono ?_; rintro e w' ⟨rfl, rfl⟩))
    go_ret
    exact ⟨ret_bool (by rw [H.out, HK.out]; simp [*]), (by repeat (first | exact Ext.refl _ | refine Ext.lift ?_ _ | refine Ext.alloc ?_ _))⟩
  · have HK : Hid (scoreB x.kind x.score = inB x.score 1 7) := by show _ = _; unfold scoreB; rw [hk]; rfl
    go_enter Try.func42, Try.ntmps42
    go_wp2_with (first | (go_at_call 44; refine (l00In_any _ _ _ _).mono ?_; rintro e w' ⟨rfl, rfl⟩) | (go_at_call 55; refine (l04Hour_any _ _).mono ?_; rintro e w' ⟨rfl, rfl⟩))
    go_ret
    exact ⟨ret_bool (by rw [H.out, HK.out]; simp [*]), (by repeat (first | exact Ext.refl _ | refine Ext.lift ?_ _ | refine Ext.alloc ?_ _))⟩
  · have HK : Hid (scoreB x.kind x.score = false) := by show _ = _; unfold scoreB; rw [if_neg hk1, if_neg hk2, if_neg hk3]
    have b1 : (x.kind == 1) = false := beq_eq_false_iff_ne.2 hk1
    have b2 : (x.kind == 2) = false := beq_eq_false_iff_ne.2 hk2
    have b3 : (x.kind == 3) = false := beq_eq_false_iff_ne.2 hk3
    clear hk1 hk2 hk3
    go_enter Try.func42, Try.ntmps42
    go_wp2_with (first | (go_at_call 44; refine (l00In_any _ _ _ _).mono ?_; rintro e w' ⟨rfl, rfl⟩) | (go_at_call 55; refine (l04Hour_any _ _).mono ?_; rintro e w' ⟨rfl, rfl⟩))
    go_ret
    exact ⟨ret_bool (by rw [H.out, HK.out]; simp), (by repeat (first | exact Ext.refl _ | refine Ext.lift ?_ _ | refine Ext.alloc ?_ _))⟩
  all_goals
    go_enter Try.func42, Try.ntmps42
    go_wp2_with (first | (go_at_call 44; refine (l00In_any _ _ _ _).mono ?_; rintro e w' ⟨rfl, rfl⟩) | (go_at_call 55; refine (l04Hour_any _ _).mono ?_; rintro e w' ⟨rfl, rfl⟩))
    go_ret
    exact ⟨ret_bool (by rw [H.out]; simp [*]), (by repeat (first | exact Ext.refl _ | refine Ext.lift ?_ _ | refine Ext.alloc ?_ _))⟩
end Go.Proofs.Ytdopffhekinbnaa

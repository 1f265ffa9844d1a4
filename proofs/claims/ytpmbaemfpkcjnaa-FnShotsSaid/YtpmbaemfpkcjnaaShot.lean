/- A shot: when it is valid. What the program's and the reference's functions say. -/
import Derived.Test.YtpmbaemfpkcjnaaAnd
import Derived.Test.YtpmbaemfpkcjnaaLists
import Derived.Test.YtpmbaemfpkcjnaaGrow
namespace Go.Proofs.Ytpmbaemfpkcjnaa
open Go.RowKit
structure Shot where
  id : ByteArray
  frm : Int
  til : Int
  mins : Int
  gain : Int
instance : Inhabited Shot := ⟨⟨ByteArray.empty, 0, 0, 0, 0⟩⟩
def Shot.cell (x : Shot) : Nat → Value
  | 0 => .string x.id
  | 1 => .int .i64 x.frm
  | 2 => .int .i64 x.til
  | 3 => .int .i64 x.mins
  | _ => .int .i64 x.gain
def Shot.val (x : Shot) : Value := .agg #[.string x.id, .int .i64 x.frm, .int .i64 x.til, .int .i64 x.mins, .int .i64 x.gain]
/-- A slice of these begins at a, and its elements hold l. -/
abbrev ShotAt (w : World) (a : Option Addr) (l : List Shot) : Prop := RowsAt 5 Shot.cell w a l
theorem Shot.at {w : World} {b off : Nat} {l : List Shot} (h : ShotAt w (some ⟨b, off, none⟩) l) (k : Nat) (hk : k < l.length) :
    b < w.heap.size ∧ w.cell? ⟨b, off + k * 5, none⟩ = some (.string (nth l k).id) ∧ w.cell? ⟨b, off + k * 5 + 1, none⟩ = some (.int .i64 (nth l k).frm) ∧ w.cell? ⟨b, off + k * 5 + 2, none⟩ = some (.int .i64 (nth l k).til) ∧ w.cell? ⟨b, off + k * 5 + 3, none⟩ = some (.int .i64 (nth l k).mins) ∧ w.cell? ⟨b, off + k * 5 + 4, none⟩ = some (.int .i64 (nth l k).gain) :=
  let h' := RowsAt.at h k hk; ⟨h'.1, h'.2 0 (by decide), h'.2 1 (by decide), h'.2 2 (by decide), h'.2 3 (by decide), h'.2 4 (by decide)⟩
/-- The lengths of the strings that come in are those of strings that fit in memory. -/
def Shot.Sz (x : Shot) : Prop := x.id.size ≤ 9223372036854775807
def Shot.Small (x : Shot) : Prop := x.id.size ≤ 1048576
def Shot.Wf (x : Shot) : Prop := (-9223372036854775808 ≤ x.frm ∧ x.frm ≤ 9223372036854775807) ∧ (-9223372036854775808 ≤ x.til ∧ x.til ≤ 9223372036854775807) ∧ (-9223372036854775808 ≤ x.mins ∧ x.mins ≤ 9223372036854775807) ∧ (-9223372036854775808 ≤ x.gain ∧ x.gain ≤ 9223372036854775807)

def shotB (x : Shot) : Bool := nameB x.id && inB x.frm 0 1440 && inB x.til 0 1440 && inB x.mins 1 240 && decide (x.frm + x.mins ≤ x.til) && inB x.gain 0 1000
theorem shotB_bd {x : Shot} (h : shotB x = true) : x.id.size ≤ 10 ∧ (0 ≤ x.frm ∧ x.frm ≤ 1440) ∧ (0 ≤ x.til ∧ x.til ≤ 1440) ∧ (1 ≤ x.mins ∧ x.mins ≤ 240) ∧ x.frm + x.mins ≤ x.til ∧ (0 ≤ x.gain ∧ x.gain ≤ 1000) := by
  unfold shotB at h; simp only [Bool.and_eq_true, inB_iff, decide_eq_true_eq] at h
  exact ⟨nameB_size h.1.1.1.1.1, h.1.1.1.1.2, h.1.1.1.2, h.1.1.2, h.1.2, h.2⟩
theorem shotB_impl (x : Shot) : shotB x = (nameB x.id && inB x.frm 0 1440 && inB x.til 0 1440 && inB x.mins 1 (min (x.til - x.frm) 240) && inB x.gain 0 1000) := by
  unfold shotB
  have h : inB x.mins 1 (min (x.til - x.frm) 240) = (inB x.mins 1 240 && decide (x.frm + x.mins ≤ x.til)) := by
    rw [Bool.eq_iff_iff]; simp only [Bool.and_eq_true, inB_iff, decide_eq_true_eq]; omega
  rw [h]; simp only [Bool.and_assoc]
set_option maxRecDepth 100000 in
set_option maxHeartbeats 2000000 in
theorem Shot_valid (x : Shot) (w : World) (hs0 : x.id.size ≤ 2000000) :
    Gives Try.prog 36 #[.agg #[.string x.id, .int .i64 x.frm, .int .i64 x.til, .int .i64 x.mins, .int .i64 x.gain]] w (.bool (shotB x)) := by
  have H : Hid (shotB x = (nameB x.id && inB x.frm 0 1440 && inB x.til 0 1440 && inB x.mins 1 (min (x.til - x.frm) 240) && inB x.gain 0 1000)) := shotB_impl x
  unfold Gives
  rcases Int.lt_or_le 240 (x.til - x.frm) with hq | hq
  · rw [show min (x.til - x.frm) 240 = 240 by omega] at H
    rcases and5 (nameB x.id) (inB x.frm 0 1440) (inB x.til 0 1440) (inB x.mins 1 240) with h0 | ⟨h0, h1⟩ | ⟨h0, h1, h2⟩ | ⟨h0, h1, h2, h3⟩ | ⟨h0, h1, h2, h3⟩
    all_goals
      try (have b1 := inB_iff.1 h1; have b2 := inB_iff.1 h2)
      go_enter Try.func36, Try.ntmps36
      go_wp2_with (first | (go_at_call 42; refine (within_any _ _ _ _).mono ?_; rintro e w' ⟨rfl, rfl⟩) | (go_at_call 55; refine (IsName_any _ _ (by omega)).mono ?_; rintro e w' ⟨rfl, rfl⟩))
      go_ret
      exact ⟨ret_bool (by rw [H.out]; simp [*]), (by repeat (first | exact Ext.refl _ | refine Ext.lift ?_ _ | refine Ext.alloc ?_ _))⟩
  · rw [show min (x.til - x.frm) 240 = (x.til - x.frm) by omega] at H
    rcases and5 (nameB x.id) (inB x.frm 0 1440) (inB x.til 0 1440) (inB x.mins 1 (x.til - x.frm)) with h0 | ⟨h0, h1⟩ | ⟨h0, h1, h2⟩ | ⟨h0, h1, h2, h3⟩ | ⟨h0, h1, h2, h3⟩
    all_goals
      try (have b1 := inB_iff.1 h1; have b2 := inB_iff.1 h2)
      go_enter Try.func36, Try.ntmps36
      go_wp2_with (first | (go_at_call 42; refine (within_any _ _ _ _).mono ?_; rintro e w' ⟨rfl, rfl⟩) | (go_at_call 55; refine (IsName_any _ _ (by omega)).mono ?_; rintro e w' ⟨rfl, rfl⟩))
      go_ret
      exact ⟨ret_bool (by rw [H.out]; simp [*]), (by repeat (first | exact Ext.refl _ | refine Ext.lift ?_ _ | refine Ext.alloc ?_ _))⟩
set_option maxRecDepth 100000 in
set_option maxHeartbeats 2000000 in
theorem l22One_any (b o : Nat) (x : Shot) (w : World) (hs0 : x.id.size ≤ 2000000) (c0 : w.cell? ⟨b, o, none⟩ = some (.string x.id)) (c1 : w.cell? ⟨b, o + 1, none⟩ = some (.int .i64 x.frm)) (c2 : w.cell? ⟨b, o + 2, none⟩ = some (.int .i64 x.til)) (c3 : w.cell? ⟨b, o + 3, none⟩ = some (.int .i64 x.mins)) (c4 : w.cell? ⟨b, o + 4, none⟩ = some (.int .i64 x.gain)) :
    Gives Try.prog 77 #[.pointer (some ⟨b, o, none⟩)] w (.bool (shotB x)) := by
  have H : Hid (shotB x = (nameB x.id && inB x.frm 0 1440 && inB x.til 0 1440 && inB x.mins 1 240 && decide (x.frm + x.mins ≤ x.til) && inB x.gain 0 1000)) := rfl
  have hbl := block_lt c0
  unfold Gives
  rcases and6 (nameB x.id) (inB x.frm 0 1440) (inB x.til 0 1440) (inB x.mins 1 240) (decide (x.frm + x.mins ≤ x.til)) with h0 | ⟨h0, h1⟩ | ⟨h0, h1, h2⟩ | ⟨h0, h1, h2, h3⟩ | ⟨h0, h1, h2, h3, h4⟩ | ⟨h0, h1, h2, h3, h4⟩
  all_goals
    try (have b1 := inB_iff.1 h1; have b2 := inB_iff.1 h2; have b3 := inB_iff.1 h3)
    go_enter Try.func77, Try.ntmps77
    go_wp2_with fail
    refine region_quiet (by kernel_rfl) (by kernel_rfl) ?_
    repeat (any_goals (first | go_big_quiet_step ((first | (exact Gives.quiet (Gives.same (l00In_any _ _ _ _))) | (exact Gives.quiet (Gives.same (l01Name_any _ _ (by omega)))))) | quiet_step ((first | (exact Gives.quiet (Gives.same (l00In_any _ _ _ _))) | (exact Gives.quiet (Gives.same (l01Name_any _ _ (by omega))))))))
    refine wpQuiet_nil ?_
    intro _ hw'
    obtain ⟨y, hw''⟩ := hw'
    subst hw''
    go_wp2
    go_ret
    exact ⟨ret_bool (by rw [H.out]; simp [*]), (by repeat (first | exact Ext.refl _ | refine Ext.lift ?_ _ | refine Ext.alloc ?_ _))⟩
end Go.Proofs.Ytpmbaemfpkcjnaa

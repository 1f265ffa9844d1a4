/- Chapter 4: observed hours as text. What the program's and the reference's functions on one observed hour hand back. -/
import Derived.Test.YtanafhppifhfmaaDoorListText
import Derived.StillTailTactics
namespace Go.Proofs.YtanafhppifhfmaaDoor
open Go.RowKit
structure Observed where
  hour : Int
  snow : Int
  degrees : Int
  wind : Int
instance : Inhabited Observed := ⟨⟨0, 0, 0, 0⟩⟩
def Observed.cell (x : Observed) : Nat → Value
  | 0 => .int .i64 x.hour
  | 1 => .int .i64 x.snow
  | 2 => .int .i64 x.degrees
  | _ => .int .i64 x.wind
def Observed.val (x : Observed) : Value := .agg #[.int .i64 x.hour, .int .i64 x.snow, .int .i64 x.degrees, .int .i64 x.wind]
/-- A slice of these begins at a, and its elements hold l. -/
abbrev ObservedAt (w : World) (a : Option Addr) (l : List Observed) : Prop := RowsAt 4 Observed.cell w a l
theorem Observed.at {w : World} {b off : Nat} {l : List Observed} (h : ObservedAt w (some ⟨b, off, none⟩) l) (k : Nat) (hk : k < l.length) :
    b < w.heap.size ∧ w.cell? ⟨b, off + k * 4, none⟩ = some (.int .i64 (nth l k).hour) ∧ w.cell? ⟨b, off + k * 4 + 1, none⟩ = some (.int .i64 (nth l k).snow) ∧ w.cell? ⟨b, off + k * 4 + 2, none⟩ = some (.int .i64 (nth l k).degrees) ∧ w.cell? ⟨b, off + k * 4 + 3, none⟩ = some (.int .i64 (nth l k).wind) :=
  let h' := RowsAt.at h k hk; ⟨h'.1, h'.2 0 (by decide), h'.2 1 (by decide), h'.2 2 (by decide), h'.2 3 (by decide)⟩
/-- The lengths of the strings that come in are those of strings that fit in memory. -/
def Observed.Sz (_x : Observed) : Prop := True
def Observed.Small (_x : Observed) : Prop := True
def Observed.Wf (x : Observed) : Prop := (-9223372036854775808 ≤ x.hour ∧ x.hour ≤ 9223372036854775807) ∧ (-9223372036854775808 ≤ x.snow ∧ x.snow ≤ 9223372036854775807) ∧ (-9223372036854775808 ≤ x.degrees ∧ x.degrees ≤ 9223372036854775807) ∧ (-9223372036854775808 ≤ x.wind ∧ x.wind ≤ 9223372036854775807)
def obsB (x : Observed) : Bool := inB x.hour 0 100000 && inB x.snow 0 2000 && inB x.degrees (-5000) 5000 && inB x.wind 0 10000
def obsS (x : Observed) : ByteArray := if obsB x = true then listS [x.hour, x.snow, x.degrees, x.wind] else ⟨#[]⟩
theorem obsB_bd {x : Observed} (h : obsB x = true) : (0 ≤ x.hour ∧ x.hour ≤ 100000) ∧ (0 ≤ x.snow ∧ x.snow ≤ 2000) ∧ (-5000 ≤ x.degrees ∧ x.degrees ≤ 5000) ∧ (0 ≤ x.wind ∧ x.wind ≤ 10000) := by
  unfold obsB at h; simp only [Bool.and_eq_true, inB_iff] at h; exact ⟨h.1.1.1, h.1.1.2, h.1.2, h.2⟩
theorem l04Hour_any (n : Int) (w : World) : Calls Tryd.prog 129 #[.int .i64 n] w fun e w' => e = .returned (.bool (inB n 0 100000)) ∧ w' = w := by
  go_enter Tryd.func129, Tryd.ntmps129
  go_wp2_with (go_at_call 92; refine (l00In_any _ _ _ _).mono ?_; rintro e w' ⟨rfl, rfl⟩)
  go_ret
  exact ⟨rfl, rfl⟩
theorem hourOk_any (n : Int) (w : World) : Calls Tryd.prog 130 #[.int .i64 n] w fun e w' => e = .returned (.bool (inB n 0 100000)) ∧ w' = w := by
  go_enter Tryd.func130, Tryd.ntmps130
  go_wp2_with (go_at_call 119; refine (within_any _ _ _ _).mono ?_; rintro e w' ⟨rfl, rfl⟩)
  go_ret
  exact ⟨rfl, rfl⟩
set_option maxHeartbeats 1000000 in
theorem Observed_valid (x : Observed) (w : World) :
    Gives Tryd.prog 102 #[.agg #[.int .i64 x.hour, .int .i64 x.snow, .int .i64 x.degrees, .int .i64 x.wind]] w (.bool (obsB x)) := by
  have H : Hid (obsB x = (inB x.hour 0 100000 && inB x.snow 0 2000 && inB x.degrees (-5000) 5000 && inB x.wind 0 10000)) := rfl
  unfold Gives
  cases h1 : inB x.hour 0 100000 <;> cases h2 : inB x.snow 0 2000 <;> cases h3 : inB x.degrees (-5000) 5000
  all_goals
    go_enter Tryd.func102, Tryd.ntmps102
    go_wp2_with (first | (go_at_call 119; refine (within_any _ _ _ _).mono ?_; rintro e w' ⟨rfl, rfl⟩) | (go_at_call 130; refine (hourOk_any _ _).mono ?_; rintro e w' ⟨rfl, rfl⟩))
    go_ret
    exact ⟨ret_bool (by rw [H.out]; simp [*]), (Ext.refl _).alloc _⟩
set_option maxHeartbeats 1000000 in
theorem l04One_any (b o : Nat) (x : Observed) (w : World) (c0 : w.cell? ⟨b, o, none⟩ = some (.int .i64 x.hour)) (c1 : w.cell? ⟨b, o + 1, none⟩ = some (.int .i64 x.snow)) (c2 : w.cell? ⟨b, o + 2, none⟩ = some (.int .i64 x.degrees)) (c3 : w.cell? ⟨b, o + 3, none⟩ = some (.int .i64 x.wind)) :
    Calls Tryd.prog 101 #[.pointer (some ⟨b, o, none⟩)] w fun e w' => e = .returned (.bool (obsB x)) ∧ w' = w := by
  have H : Hid (obsB x = (inB x.hour 0 100000 && inB x.snow 0 2000 && inB x.degrees (-5000) 5000 && inB x.wind 0 10000)) := rfl
  cases h1 : inB x.hour 0 100000 <;> cases h2 : inB x.snow 0 2000 <;> cases h3 : inB x.degrees (-5000) 5000
  all_goals
    go_enter Tryd.func101, Tryd.ntmps101
    go_wp2_with (first | (go_at_call 92; refine (l00In_any _ _ _ _).mono ?_; rintro e w' ⟨rfl, rfl⟩) | (go_at_call 129; refine (l04Hour_any _ _).mono ?_; rintro e w' ⟨rfl, rfl⟩))
    go_ret
    exact ⟨ret_bool (by rw [H.out]; simp [*]), rfl⟩
set_option maxHeartbeats 1000000 in
theorem implObservedText (x : Observed) (w : World) (ht : Tab w) :
    Gives Tryd.prog 60 #[.agg #[.int .i64 x.hour, .int .i64 x.snow, .int .i64 x.degrees, .int .i64 x.wind]] w (.string (obsS x)) := by
  unfold Gives
  have HT := Lib.hid ht
  clear ht
  cases h : obsB x
  · have hv : Hid ((⟨#[]⟩ : ByteArray) = obsS x) := by show _ = _; unfold obsS; rw [h]; rfl
    go_enter Tryd.func60, Tryd.ntmps60
    go_wp2_with (go_at_call 102; refine (Observed_valid x _).mono ?_; rintro e w' ⟨rfl, y, rfl⟩; rw [h])
    go_ret
    exact ⟨by rw [← hv.out]; rfl, ((Ext.refl _).alloc _).lift y⟩
  · have hv : Hid (listS [x.hour, x.snow, x.degrees, x.wind] = obsS x) := by show _ = _; unfold obsS; rw [if_pos h]
    have hb := Lib.hid (obsB_bd h)
    go_enter Tryd.func60, Tryd.ntmps60
    go_wp2_with fail
    refine (Observed_valid x _).mono ?_
    rintro e w' ⟨rfl, y, rfl⟩
    rw [h]
    go_wp2_with fail
    refine (ListText_any _ 4 [x.hour, x.snow, x.degrees, x.wind] _ (intAt_new' _ _ _ _ (by intro k hk; simp at hk; rcases (show k = 0 ∨ k = 1 ∨ k = 2 ∨ k = 3 by omega) with rfl | rfl | rfl | rfl <;> rfl) (by simp only [lift_size, size_new]))
      (by intro k hk; simp at hk; rw [inB_iff]; have := hb.out; rcases (show k = 0 ∨ k = 1 ∨ k = 2 ∨ k = 3 by omega) with rfl | rfl | rfl | rfl <;> simp [nth] <;> omega) (by simp) (HT.out.ext (by repeat (first | exact Ext.refl _ | refine Ext.lift ?_ _ | refine Ext.alloc ?_ _)))).mono ?_
    rintro e w' ⟨rfl, z, rfl⟩
    go_wp2_with fail
    go_ret
    exact ⟨by rw [← hv.out]; rfl, (by repeat (first | exact Ext.refl _ | refine Ext.lift ?_ _ | refine Ext.alloc ?_ _))⟩
end Go.Proofs.YtanafhppifhfmaaDoor

/- Chapter 4: observed hours: when one is valid. What the program's and the reference's functions say. -/
import Derived.Test.YtchoalgfnngjhaaAnd
import Derived.Test.YtchoalgfnngjhaaLists
import Derived.Test.YtchoalgfnngjhaaGrow
namespace Go.Proofs.Ytchoalgfnngjhaa
open Go.RowKit
structure Observed where
  hour : Int
  snow : Int
  degrees : Int
  wind : Int
instance : Inhabited Observed := ⟨⟨0, 0, 0, 0⟩⟩
def Observed.cell (x : Observed) : Nat → Value
  | 0 => .int .i64 x.hour
  | 1 => .int .i64 x.snow
  | 2 => .int .i64 x.degrees
  | _ => .int .i64 x.wind
def Observed.val (x : Observed) : Value := .agg #[.int .i64 x.hour, .int .i64 x.snow, .int .i64 x.degrees, .int .i64 x.wind]
/-- A slice of these begins at a, and its elements hold l. -/
abbrev ObservedAt (w : World) (a : Option Addr) (l : List Observed) : Prop := RowsAt 4 Observed.cell w a l
theorem Observed.at {w : World} {b off : Nat} {l : List Observed} (h : ObservedAt w (some ⟨b, off, none⟩) l) (k : Nat) (hk : k < l.length) :
    b < w.heap.size ∧ w.cell? ⟨b, off + k * 4, none⟩ = some (.int .i64 (nth l k).hour) ∧ w.cell? ⟨b, off + k * 4 + 1, none⟩ = some (.int .i64 (nth l k).snow) ∧ w.cell? ⟨b, off + k * 4 + 2, none⟩ = some (.int .i64 (nth l k).degrees) ∧ w.cell? ⟨b, off + k * 4 + 3, none⟩ = some (.int .i64 (nth l k).wind) :=
  let h' := RowsAt.at h k hk; ⟨h'.1, h'.2 0 (by decide), h'.2 1 (by decide), h'.2 2 (by decide), h'.2 3 (by decide)⟩
/-- The lengths of the strings that come in are those of strings that fit in memory. -/
def Observed.Sz (_x : Observed) : Prop := True
def Observed.Small (_x : Observed) : Prop := True
def Observed.Wf (x : Observed) : Prop := (-9223372036854775808 ≤ x.hour ∧ x.hour ≤ 9223372036854775807) ∧ (-9223372036854775808 ≤ x.snow ∧ x.snow ≤ 9223372036854775807) ∧ (-9223372036854775808 ≤ x.degrees ∧ x.degrees ≤ 9223372036854775807) ∧ (-9223372036854775808 ≤ x.wind ∧ x.wind ≤ 9223372036854775807)
def obsB (x : Observed) : Bool := inB x.hour 0 100000 && inB x.snow 0 2000 && inB x.degrees (-5000) 5000 && inB x.wind 0 10000
theorem obsB_bd {x : Observed} (h : obsB x = true) : (0 ≤ x.hour ∧ x.hour ≤ 100000) ∧ (0 ≤ x.snow ∧ x.snow ≤ 2000) ∧ (-5000 ≤ x.degrees ∧ x.degrees ≤ 5000) ∧ (0 ≤ x.wind ∧ x.wind ≤ 10000) := by
  unfold obsB at h; simp only [Bool.and_eq_true, inB_iff] at h; exact ⟨h.1.1.1, h.1.1.2, h.1.2, h.2⟩
theorem l04Hour_any (n : Int) (w : World) : Calls Try.prog 127 #[.int .i64 n] w fun e w' => e = .returned (.bool (inB n 0 100000)) ∧ w' = w := by
  go_enter Try.func127, Try.ntmps127
  go_wp2_with (go_at_call 128; refine (l00In_any _ _ _ _).mono ?_; rintro e w' ⟨rfl, rfl⟩)
  go_ret
  exact ⟨rfl, rfl⟩
theorem hourOk_any (n : Int) (w : World) : Calls Try.prog 129 #[.int .i64 n] w fun e w' => e = .returned (.bool (inB n 0 100000)) ∧ w' = w := by
  go_enter Try.func129, Try.ntmps129
  go_wp2_with (go_at_call 114; refine (within_any _ _ _ _).mono ?_; rintro e w' ⟨rfl, rfl⟩)
  go_ret
  exact ⟨rfl, rfl⟩
set_option maxHeartbeats 1000000 in
theorem Observed_valid (x : Observed) (w : World) :
    Gives Try.prog 82 #[.agg #[.int .i64 x.hour, .int .i64 x.snow, .int .i64 x.degrees, .int .i64 x.wind]] w (.bool (obsB x)) := by
  have H : Hid (obsB x = (inB x.hour 0 100000 && inB x.snow 0 2000 && inB x.degrees (-5000) 5000 && inB x.wind 0 10000)) := rfl
  unfold Gives
  cases h1 : inB x.hour 0 100000 <;> cases h2 : inB x.snow 0 2000 <;> cases h3 : inB x.degrees (-5000) 5000
  all_goals
    go_enter Try.func82, Try.ntmps82
    go_wp2_with (first | (go_at_call 114; refine (within_any _ _ _ _).mono ?_; rintro e w' ⟨rfl, rfl⟩) | (go_at_call 129; refine (hourOk_any _ _).mono ?_; rintro e w' ⟨rfl, rfl⟩))
    go_ret
    exact ⟨ret_bool (by rw [H.out]; simp [*]), (Ext.refl _).alloc _⟩
set_option maxHeartbeats 1000000 in
theorem l04One_any (b o : Nat) (x : Observed) (w : World) (c0 : w.cell? ⟨b, o, none⟩ = some (.int .i64 x.hour)) (c1 : w.cell? ⟨b, o + 1, none⟩ = some (.int .i64 x.snow)) (c2 : w.cell? ⟨b, o + 2, none⟩ = some (.int .i64 x.degrees)) (c3 : w.cell? ⟨b, o + 3, none⟩ = some (.int .i64 x.wind)) :
    Calls Try.prog 78 #[.pointer (some ⟨b, o, none⟩)] w fun e w' => e = .returned (.bool (obsB x)) ∧ w' = w := by
  have H : Hid (obsB x = (inB x.hour 0 100000 && inB x.snow 0 2000 && inB x.degrees (-5000) 5000 && inB x.wind 0 10000)) := rfl
  cases h1 : inB x.hour 0 100000 <;> cases h2 : inB x.snow 0 2000 <;> cases h3 : inB x.degrees (-5000) 5000
  all_goals
    go_enter Try.func78, Try.ntmps78
    go_wp2_with (first | (go_at_call 128; refine (l00In_any _ _ _ _).mono ?_; rintro e w' ⟨rfl, rfl⟩) | (go_at_call 127; refine (l04Hour_any _ _).mono ?_; rintro e w' ⟨rfl, rfl⟩))
    go_ret
    exact ⟨ret_bool (by rw [H.out]; simp [*]), rfl⟩
end Go.Proofs.Ytchoalgfnngjhaa

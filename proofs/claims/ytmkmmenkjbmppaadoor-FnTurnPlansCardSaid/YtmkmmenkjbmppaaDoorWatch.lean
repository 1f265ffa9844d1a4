/- A watch: when it is valid. What the program's and the reference's functions say. -/
import Derived.Test.YtmkmmenkjbmppaaDoorAnd
import Derived.Test.YtmkmmenkjbmppaaDoorLists
import Derived.Test.YtmkmmenkjbmppaaDoorGrow
namespace Go.Proofs.YtmkmmenkjbmppaaDoor
open Go.RowKit
structure Watch where
  person : ByteArray
  start : Int
  hours : Int
  call : Bool
instance : Inhabited Watch := ⟨⟨ByteArray.empty, 0, 0, false⟩⟩
def Watch.cell (x : Watch) : Nat → Value
  | 0 => .string x.person
  | 1 => .int .i64 x.start
  | 2 => .int .i64 x.hours
  | _ => .bool x.call
def Watch.val (x : Watch) : Value := .agg #[.string x.person, .int .i64 x.start, .int .i64 x.hours, .bool x.call]
/-- A slice of these begins at a, and its elements hold l. -/
abbrev WatchAt (w : World) (a : Option Addr) (l : List Watch) : Prop := RowsAt 4 Watch.cell w a l
theorem Watch.at {w : World} {b off : Nat} {l : List Watch} (h : WatchAt w (some ⟨b, off, none⟩) l) (k : Nat) (hk : k < l.length) :
    b < w.heap.size ∧ w.cell? ⟨b, off + k * 4, none⟩ = some (.string (nth l k).person) ∧ w.cell? ⟨b, off + k * 4 + 1, none⟩ = some (.int .i64 (nth l k).start) ∧ w.cell? ⟨b, off + k * 4 + 2, none⟩ = some (.int .i64 (nth l k).hours) ∧ w.cell? ⟨b, off + k * 4 + 3, none⟩ = some (.bool (nth l k).call) :=
  let h' := RowsAt.at h k hk; ⟨h'.1, h'.2 0 (by decide), h'.2 1 (by decide), h'.2 2 (by decide), h'.2 3 (by decide)⟩
/-- The lengths of the strings that come in are those of strings that fit in memory. -/
def Watch.Sz (x : Watch) : Prop := x.person.size ≤ 9223372036854775807
def Watch.Small (x : Watch) : Prop := x.person.size ≤ 1048576
def Watch.Wf (x : Watch) : Prop := (-9223372036854775808 ≤ x.start ∧ x.start ≤ 9223372036854775807) ∧ (-9223372036854775808 ≤ x.hours ∧ x.hours ≤ 9223372036854775807)

def watchB (x : Watch) : Bool := nameB x.person && inB x.start 0 10000 && inB x.hours 1 48
theorem watchB_bd {x : Watch} (h : watchB x = true) : x.person.size ≤ 10 ∧ (0 ≤ x.start ∧ x.start ≤ 10000) ∧ (1 ≤ x.hours ∧ x.hours ≤ 48) := by
  unfold watchB at h; simp only [Bool.and_eq_true, inB_iff] at h
  exact ⟨nameB_size h.1.1, h.1.2, h.2⟩
set_option maxRecDepth 100000 in
set_option maxHeartbeats 2000000 in
theorem Watch_valid (x : Watch) (w : World) (hs0 : x.person.size ≤ 2000000) :
    Gives Tryd.prog 46 #[.agg #[.string x.person, .int .i64 x.start, .int .i64 x.hours, .bool x.call]] w (.bool (watchB x)) := by
  have H : Hid (watchB x = (nameB x.person && inB x.start 0 10000 && inB x.hours 1 48)) := rfl
  unfold Gives
  rcases and3 (nameB x.person) (inB x.start 0 10000) with h0 | ⟨h0, h1⟩ | ⟨h0, h1⟩
  all_goals
    skip
    go_enter Tryd.func46, Tryd.ntmps46
    go_wp2_with (first | (go_at_call 34; refine (within_any _ _ _ _).mono ?_; rintro e w' ⟨rfl, rfl⟩) | (go_at_call 58; refine (IsName_any _ _ (by omega)).mono ?_; rintro e w' ⟨rfl, rfl⟩))
    go_ret
    exact ⟨ret_bool (by rw [H.out]; simp [*]), (by repeat (first | exact Ext.refl _ | refine Ext.lift ?_ _ | refine Ext.alloc ?_ _))⟩
set_option maxRecDepth 100000 in
set_option maxHeartbeats 2000000 in
theorem l26One_any (b o : Nat) (x : Watch) (w : World) (hs0 : x.person.size ≤ 2000000) (c0 : w.cell? ⟨b, o, none⟩ = some (.string x.person)) (c1 : w.cell? ⟨b, o + 1, none⟩ = some (.int .i64 x.start)) (c2 : w.cell? ⟨b, o + 2, none⟩ = some (.int .i64 x.hours)) (c3 : w.cell? ⟨b, o + 3, none⟩ = some (.bool x.call)) :
    Gives Tryd.prog 49 #[.pointer (some ⟨b, o, none⟩)] w (.bool (watchB x)) := by
  have H : Hid (watchB x = (nameB x.person && inB x.start 0 10000 && inB x.hours 1 48)) := rfl
  have hbl := block_lt c0
  unfold Gives
  rcases and3 (nameB x.person) (inB x.start 0 10000) with h0 | ⟨h0, h1⟩ | ⟨h0, h1⟩
  all_goals
    skip
    go_enter Tryd.func49, Tryd.ntmps49
    go_wp2_with (first | (go_at_call 50; refine (l00In_any _ _ _ _).mono ?_; rintro e w' ⟨rfl, rfl⟩) | (go_at_call 62; refine (l01Name_any _ _ (by omega)).mono ?_; rintro e w' ⟨rfl, rfl⟩))
    go_ret
    exact ⟨ret_bool (by rw [H.out]; simp [*]), Ext.refl _⟩
end Go.Proofs.YtmkmmenkjbmppaaDoor

/- A verified: when it is valid. What the program's and the reference's functions say. -/
import Derived.Test.YtchoalgfnngjhaaAnd
import Derived.Test.YtchoalgfnngjhaaLists
import Derived.Test.YtchoalgfnngjhaaGrow
import Derived.Test.YtchoalgfnngjhaaDay
namespace Go.Proofs.Ytchoalgfnngjhaa
open Go.RowKit
structure Verified where
  day : Int
  told : Int
  seen : Int
instance : Inhabited Verified := ⟨⟨0, 0, 0⟩⟩
def Verified.cell (x : Verified) : Nat → Value
  | 0 => .int .i64 x.day
  | 1 => .int .i64 x.told
  | _ => .int .i64 x.seen
def Verified.val (x : Verified) : Value := .agg #[.int .i64 x.day, .int .i64 x.told, .int .i64 x.seen]
/-- A slice of these begins at a, and its elements hold l. -/
abbrev VerifiedAt (w : World) (a : Option Addr) (l : List Verified) : Prop := RowsAt 3 Verified.cell w a l
theorem Verified.at {w : World} {b off : Nat} {l : List Verified} (h : VerifiedAt w (some ⟨b, off, none⟩) l) (k : Nat) (hk : k < l.length) :
    b < w.heap.size ∧ w.cell? ⟨b, off + k * 3, none⟩ = some (.int .i64 (nth l k).day) ∧ w.cell? ⟨b, off + k * 3 + 1, none⟩ = some (.int .i64 (nth l k).told) ∧ w.cell? ⟨b, off + k * 3 + 2, none⟩ = some (.int .i64 (nth l k).seen) :=
  let h' := RowsAt.at h k hk; ⟨h'.1, h'.2 0 (by decide), h'.2 1 (by decide), h'.2 2 (by decide)⟩
/-- The lengths of the strings that come in are those of strings that fit in memory. -/
def Verified.Sz (_x : Verified) : Prop := True
def Verified.Small (_x : Verified) : Prop := True
def Verified.Wf (x : Verified) : Prop := (-9223372036854775808 ≤ x.day ∧ x.day ≤ 9223372036854775807) ∧ (-9223372036854775808 ≤ x.told ∧ x.told ≤ 9223372036854775807) ∧ (-9223372036854775808 ≤ x.seen ∧ x.seen ≤ 9223372036854775807)

def verifiedB (x : Verified) : Bool := inB x.day 0 36524 && inB x.told 1 5 && inB x.seen 1 5
theorem verifiedB_bd {x : Verified} (h : verifiedB x = true) : (0 ≤ x.day ∧ x.day ≤ 36524) ∧ (1 ≤ x.told ∧ x.told ≤ 5) ∧ (1 ≤ x.seen ∧ x.seen ≤ 5) := by
  unfold verifiedB at h; simp only [Bool.and_eq_true, inB_iff] at h
  exact ⟨h.1.1, h.1.2, h.2⟩
set_option maxRecDepth 100000 in
set_option maxHeartbeats 2000000 in
theorem Verified_valid (x : Verified) (w : World)  :
    Gives Try.prog 73 #[.agg #[.int .i64 x.day, .int .i64 x.told, .int .i64 x.seen]] w (.bool (verifiedB x)) := by
  have H : Hid (verifiedB x = (inB x.day 0 36524 && inB x.told 1 5 && inB x.seen 1 5)) := rfl
  unfold Gives
  rcases and3 (inB x.day 0 36524) (inB x.told 1 5) with h0 | ⟨h0, h1⟩ | ⟨h0, h1⟩
  all_goals
    skip
    go_enter Try.func73, Try.ntmps73
    go_wp2_with (first | (go_at_call 112; refine (dayValid_any _ _).mono ?_; rintro e w' ⟨rfl, rfl⟩) | (go_at_call 124; refine (levelOk_any _ _).mono ?_; rintro e w' ⟨rfl, rfl⟩))
    go_ret
    exact ⟨ret_bool (by rw [H.out]; simp [*]), (by repeat (first | exact Ext.refl _ | refine Ext.lift ?_ _ | refine Ext.alloc ?_ _))⟩
set_option maxRecDepth 100000 in
set_option maxHeartbeats 2000000 in
theorem l20One_any (b o : Nat) (x : Verified) (w : World)  (c0 : w.cell? ⟨b, o, none⟩ = some (.int .i64 x.day)) (c1 : w.cell? ⟨b, o + 1, none⟩ = some (.int .i64 x.told)) (c2 : w.cell? ⟨b, o + 2, none⟩ = some (.int .i64 x.seen)) :
    Gives Try.prog 68 #[.pointer (some ⟨b, o, none⟩)] w (.bool (verifiedB x)) := by
  have H : Hid (verifiedB x = (inB x.day 0 36524 && inB x.told 1 5 && inB x.seen 1 5)) := rfl
  have hbl := block_lt c0
  unfold Gives
  rcases and3 (inB x.day 0 36524) (inB x.told 1 5) with h0 | ⟨h0, h1⟩ | ⟨h0, h1⟩
  all_goals
    skip
    go_enter Try.func68, Try.ntmps68
    go_wp2_with (first | (go_at_call 121; refine (l02Day_any _ _).mono ?_; rintro e w' ⟨rfl, rfl⟩) | (go_at_call 122; refine (l17Is_any _ _).mono ?_; rintro e w' ⟨rfl, rfl⟩))
    go_ret
    exact ⟨ret_bool (by rw [H.out]; simp [*]), Ext.refl _⟩
end Go.Proofs.Ytchoalgfnngjhaa

/- A change of a setting. What the program's and the reference's functions say of it. -/
import Derived.Test.YtbcpgdidajapoaaDoorApplyL
namespace Go.Proofs.YtbcpgdidajapoaaDoor
open Go.RowKit
structure Change where
  kind : Int
  name : ByteArray
  value : Int
instance : Inhabited Change := ⟨⟨0, ByteArray.empty, 0⟩⟩
def Change.cell (x : Change) : Nat → Value
  | 0 => .int .i64 x.kind
  | 1 => .string x.name
  | _ => .int .i64 x.value
def Change.val (x : Change) : Value := .agg #[.int .i64 x.kind, .string x.name, .int .i64 x.value]
/-- A slice of these begins at a, and its elements hold l. -/
abbrev ChangeAt (w : World) (a : Option Addr) (l : List Change) : Prop := RowsAt 3 Change.cell w a l
theorem Change.at {w : World} {b off : Nat} {l : List Change} (h : ChangeAt w (some ⟨b, off, none⟩) l) (k : Nat) (hk : k < l.length) :
    b < w.heap.size ∧ w.cell? ⟨b, off + k * 3, none⟩ = some (.int .i64 (nth l k).kind) ∧ w.cell? ⟨b, off + k * 3 + 1, none⟩ = some (.string (nth l k).name) ∧ w.cell? ⟨b, off + k * 3 + 2, none⟩ = some (.int .i64 (nth l k).value) :=
  let h' := RowsAt.at h k hk; ⟨h'.1, h'.2 0 (by decide), h'.2 1 (by decide), h'.2 2 (by decide)⟩
/-- The lengths of the strings that come in are those of strings that fit in memory. -/
def Change.Sz (x : Change) : Prop := x.name.size ≤ 9223372036854775807
def Change.Small (x : Change) : Prop := x.name.size ≤ 1048576
def Change.Wf (x : Change) : Prop := (-9223372036854775808 ≤ x.kind ∧ x.kind ≤ 9223372036854775807) ∧ (-9223372036854775808 ≤ x.value ∧ x.value ≤ 9223372036854775807)
def Change.set (x : Change) : Setting := ⟨x.name, x.value⟩
def changeB (x : Change) : Bool := inB x.kind 1 2 && settingB x.set
theorem changeB_bd {x : Change} (h : changeB x = true) : (x.kind = 1 ∨ x.kind = 2) ∧ settingB x.set = true := by
  unfold changeB at h; simp only [Bool.and_eq_true, inB_iff] at h
  exact ⟨by omega, h.2⟩
set_option maxRecDepth 100000 in
set_option maxHeartbeats 2000000 in
theorem wrong_any (x : Change) (w : World) (hs0 : x.name.size ≤ 2000000) :
    Gives Tryd.prog 26 #[.agg #[.int .i64 x.kind, .string x.name, .int .i64 x.value]] w (.bool (!changeB x)) := by
  have H : Hid (changeB x = (inB x.kind 1 2 && settingB x.set)) := rfl
  have hS := Lib.hid fun (W : World) => Setting_valid x.set W hs0
  unfold Gives
  by_cases h1 : x.kind = 1
  · have hk : Hid (inB x.kind 1 2 = true) := inB_iff.2 (by omega)
    have e1 : (x.kind != 1) = false := by rw [h1]; rfl
    go_enter Tryd.func26, Tryd.ntmps26
    go_wp2_with (go_at_call 27; refine (hS.out _).mono ?_; rintro e w' ⟨rfl, y, rfl⟩)
    go_ret
    exact ⟨ret_bool (by rw [H.out, hk.out]; simp), (by repeat (first | exact Ext.refl _ | refine Ext.lift ?_ _ | refine Ext.alloc ?_ _))⟩
  by_cases h2 : x.kind = 2
  · have hk : Hid (inB x.kind 1 2 = true) := inB_iff.2 (by omega)
    have e1 : (x.kind != 1) = true := by rw [h2]; rfl
    have e2 : (x.kind != 2) = false := by rw [h2]; rfl
    go_enter Tryd.func26, Tryd.ntmps26
    go_wp2_with (go_at_call 27; refine (hS.out _).mono ?_; rintro e w' ⟨rfl, y, rfl⟩)
    go_ret
    exact ⟨ret_bool (by rw [H.out, hk.out]; simp), (by repeat (first | exact Ext.refl _ | refine Ext.lift ?_ _ | refine Ext.alloc ?_ _))⟩
  · have hk : Hid (inB x.kind 1 2 = false) := inB_not (by omega)
    have e1 : (x.kind != 1) = true := by simpa using h1
    have e2 : (x.kind != 2) = true := by simpa using h2
    go_enter Tryd.func26, Tryd.ntmps26
    go_wp2_with fail
    go_ret
    exact ⟨ret_bool (by rw [H.out, hk.out]; simp), (by repeat (first | exact Ext.refl _ | refine Ext.lift ?_ _ | refine Ext.alloc ?_ _))⟩
end Go.Proofs.YtbcpgdidajapoaaDoor

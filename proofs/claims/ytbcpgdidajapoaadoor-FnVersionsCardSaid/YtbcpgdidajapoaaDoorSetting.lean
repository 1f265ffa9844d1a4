/- A setting: when it is valid. What the program's and the reference's functions say. -/
import Derived.Test.YtbcpgdidajapoaaDoorAnd
import Derived.Test.YtbcpgdidajapoaaDoorLists
import Derived.Test.YtbcpgdidajapoaaDoorGrow
namespace Go.Proofs.YtbcpgdidajapoaaDoor
open Go.RowKit
structure Setting where
  name : ByteArray
  value : Int
instance : Inhabited Setting := ⟨⟨ByteArray.empty, 0⟩⟩
def Setting.cell (x : Setting) : Nat → Value
  | 0 => .string x.name
  | _ => .int .i64 x.value
def Setting.val (x : Setting) : Value := .agg #[.string x.name, .int .i64 x.value]
/-- A slice of these begins at a, and its elements hold l. -/
abbrev SettingAt (w : World) (a : Option Addr) (l : List Setting) : Prop := RowsAt 2 Setting.cell w a l
theorem Setting.at {w : World} {b off : Nat} {l : List Setting} (h : SettingAt w (some ⟨b, off, none⟩) l) (k : Nat) (hk : k < l.length) :
    b < w.heap.size ∧ w.cell? ⟨b, off + k * 2, none⟩ = some (.string (nth l k).name) ∧ w.cell? ⟨b, off + k * 2 + 1, none⟩ = some (.int .i64 (nth l k).value) :=
  let h' := RowsAt.at h k hk; ⟨h'.1, h'.2 0 (by decide), h'.2 1 (by decide)⟩
/-- The lengths of the strings that come in are those of strings that fit in memory. -/
def Setting.Sz (x : Setting) : Prop := x.name.size ≤ 9223372036854775807
def Setting.Small (x : Setting) : Prop := x.name.size ≤ 1048576
def Setting.Wf (x : Setting) : Prop := (-9223372036854775808 ≤ x.value ∧ x.value ≤ 9223372036854775807)

def settingB (x : Setting) : Bool := nameB x.name && inB x.value 0 1000
theorem settingB_bd {x : Setting} (h : settingB x = true) : x.name.size ≤ 10 ∧ (0 ≤ x.value ∧ x.value ≤ 1000) := by
  unfold settingB at h; simp only [Bool.and_eq_true, inB_iff] at h
  exact ⟨nameB_size h.1, h.2⟩
set_option maxRecDepth 100000 in
set_option maxHeartbeats 2000000 in
theorem Setting_valid (x : Setting) (w : World) (hs0 : x.name.size ≤ 2000000) :
    Gives Tryd.prog 27 #[.agg #[.string x.name, .int .i64 x.value]] w (.bool (settingB x)) := by
  have H : Hid (settingB x = (nameB x.name && inB x.value 0 1000)) := rfl
  unfold Gives
  rcases and2 (nameB x.name) with h0 | h0
  all_goals
    skip
    go_enter Tryd.func27, Tryd.ntmps27
    go_wp2_with (first | (go_at_call 37; refine (within_any _ _ _ _).mono ?_; rintro e w' ⟨rfl, rfl⟩) | (go_at_call 52; refine (IsName_any _ _ (by omega)).mono ?_; rintro e w' ⟨rfl, rfl⟩))
    go_ret
    exact ⟨ret_bool (by rw [H.out]; simp [*]), (by repeat (first | exact Ext.refl _ | refine Ext.lift ?_ _ | refine Ext.alloc ?_ _))⟩
set_option maxRecDepth 100000 in
set_option maxHeartbeats 2000000 in
theorem l27Setting_any (b o : Nat) (x : Setting) (w : World) (hs0 : x.name.size ≤ 2000000) (c0 : w.cell? ⟨b, o, none⟩ = some (.string x.name)) (c1 : w.cell? ⟨b, o + 1, none⟩ = some (.int .i64 x.value)) :
    Gives Tryd.prog 74 #[.pointer (some ⟨b, o, none⟩)] w (.bool (settingB x)) := by
  have H : Hid (settingB x = (nameB x.name && inB x.value 0 1000)) := rfl
  have hbl := block_lt c0
  unfold Gives
  rcases and2 (nameB x.name) with h0 | h0
  all_goals
    skip
    go_enter Tryd.func74, Tryd.ntmps74
    go_wp2_with (first | (go_at_call 63; refine (l00In_any _ _ _ _).mono ?_; rintro e w' ⟨rfl, rfl⟩) | (go_at_call 81; refine (l01Name_any _ _ (by omega)).mono ?_; rintro e w' ⟨rfl, rfl⟩))
    go_ret
    exact ⟨ret_bool (by rw [H.out]; simp [*]), Ext.refl _⟩
end Go.Proofs.YtbcpgdidajapoaaDoor

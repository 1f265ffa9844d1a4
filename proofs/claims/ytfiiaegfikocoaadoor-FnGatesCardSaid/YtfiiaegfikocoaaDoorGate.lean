/- A gate: when it is valid. What the program's and the reference's functions say. -/
import Derived.Test.YtfiiaegfikocoaaDoorAnd
import Derived.Test.YtfiiaegfikocoaaDoorLists
import Derived.Test.YtfiiaegfikocoaaDoorGrow
namespace Go.Proofs.YtfiiaegfikocoaaDoor
open Go.RowKit
structure Gate where
  id : ByteArray
  shut : Int
  opn : Int
  hold : Int
  shuts : Bool
  calm : Int
instance : Inhabited Gate := ⟨⟨ByteArray.empty, 0, 0, 0, false, 0⟩⟩
def Gate.cell (x : Gate) : Nat → Value
  | 0 => .string x.id
  | 1 => .int .i64 x.shut
  | 2 => .int .i64 x.opn
  | 3 => .int .i64 x.hold
  | 4 => .bool x.shuts
  | _ => .int .i64 x.calm
def Gate.val (x : Gate) : Value := .agg #[.string x.id, .int .i64 x.shut, .int .i64 x.opn, .int .i64 x.hold, .bool x.shuts, .int .i64 x.calm]
/-- A slice of these begins at a, and its elements hold l. -/
abbrev GateAt (w : World) (a : Option Addr) (l : List Gate) : Prop := RowsAt 6 Gate.cell w a l
theorem Gate.at {w : World} {b off : Nat} {l : List Gate} (h : GateAt w (some ⟨b, off, none⟩) l) (k : Nat) (hk : k < l.length) :
    b < w.heap.size ∧ w.cell? ⟨b, off + k * 6, none⟩ = some (.string (nth l k).id) ∧ w.cell? ⟨b, off + k * 6 + 1, none⟩ = some (.int .i64 (nth l k).shut) ∧ w.cell? ⟨b, off + k * 6 + 2, none⟩ = some (.int .i64 (nth l k).opn) ∧ w.cell? ⟨b, off + k * 6 + 3, none⟩ = some (.int .i64 (nth l k).hold) ∧ w.cell? ⟨b, off + k * 6 + 4, none⟩ = some (.bool (nth l k).shuts) ∧ w.cell? ⟨b, off + k * 6 + 5, none⟩ = some (.int .i64 (nth l k).calm) :=
  let h' := RowsAt.at h k hk; ⟨h'.1, h'.2 0 (by decide), h'.2 1 (by decide), h'.2 2 (by decide), h'.2 3 (by decide), h'.2 4 (by decide), h'.2 5 (by decide)⟩
/-- The lengths of the strings that come in are those of strings that fit in memory. -/
def Gate.Sz (x : Gate) : Prop := x.id.size ≤ 9223372036854775807
def Gate.Small (x : Gate) : Prop := x.id.size ≤ 1048576
def Gate.Wf (x : Gate) : Prop := (-9223372036854775808 ≤ x.shut ∧ x.shut ≤ 9223372036854775807) ∧ (-9223372036854775808 ≤ x.opn ∧ x.opn ≤ 9223372036854775807) ∧ (-9223372036854775808 ≤ x.hold ∧ x.hold ≤ 9223372036854775807) ∧ (-9223372036854775808 ≤ x.calm ∧ x.calm ≤ 9223372036854775807)

def gateB (x : Gate) : Bool := nameB x.id && inB x.shut 1 1000 && inB x.opn 0 x.shut && inB x.hold 1 48 && inB x.calm 0 (x.hold - 1) && (x.shuts || x.calm == 0)
theorem gateB_bd {x : Gate} (h : gateB x = true) : x.id.size ≤ 10 ∧ (1 ≤ x.shut ∧ x.shut ≤ 1000) ∧ (0 ≤ x.opn ∧ x.opn ≤ x.shut) ∧ (1 ≤ x.hold ∧ x.hold ≤ 48) ∧ (0 ≤ x.calm ∧ x.calm ≤ x.hold - 1) ∧ (x.shuts = false → x.calm = 0) := by
  unfold gateB at h; simp only [Bool.and_eq_true, inB_iff] at h
  refine ⟨nameB_size h.1.1.1.1.1, h.1.1.1.1.2, h.1.1.1.2, h.1.1.2, h.1.2, fun hs => ?_⟩
  have := h.2; rw [hs] at this; simpa using this
set_option maxRecDepth 100000 in
set_option maxHeartbeats 2000000 in
theorem Gate_valid (x : Gate) (w : World) (hs0 : x.id.size ≤ 2000000) :
    Gives Tryd.prog 31 #[.agg #[.string x.id, .int .i64 x.shut, .int .i64 x.opn, .int .i64 x.hold, .bool x.shuts, .int .i64 x.calm]] w (.bool (gateB x)) := by
  have H : Hid (gateB x = (nameB x.id && inB x.shut 1 1000 && inB x.opn 0 x.shut && inB x.hold 1 48 && inB x.calm 0 (x.hold - 1) && (x.shuts || x.calm == 0))) := rfl
  unfold Gives
  rcases and6 (nameB x.id) (inB x.shut 1 1000) (inB x.opn 0 x.shut) (inB x.hold 1 48) (inB x.calm 0 (x.hold - 1)) with h0 | ⟨h0, h1⟩ | ⟨h0, h1, h2⟩ | ⟨h0, h1, h2, h3⟩ | ⟨h0, h1, h2, h3, h4⟩ | ⟨h0, h1, h2, h3, h4⟩
  rotate_left 5
  cases hs : x.shuts <;> cases hc : (x.calm == 0)
  all_goals
    try (have b3 := inB_iff.1 h3)
    go_enter Tryd.func31, Tryd.ntmps31
    go_wp2_with (first | (go_at_call 53; refine (within_any _ _ _ _).mono ?_; rintro e w' ⟨rfl, rfl⟩) | (go_at_call 52; refine (IsName_any _ _ (by omega)).mono ?_; rintro e w' ⟨rfl, rfl⟩))
    go_ret
    exact ⟨ret_bool (by rw [H.out]; simp [*]), (by repeat (first | exact Ext.refl _ | refine Ext.lift ?_ _ | refine Ext.alloc ?_ _))⟩
end Go.Proofs.YtfiiaegfikocoaaDoor

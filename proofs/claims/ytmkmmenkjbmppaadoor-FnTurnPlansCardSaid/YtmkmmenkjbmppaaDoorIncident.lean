/- A incident: when it is valid. What the program's and the reference's functions say. -/
import Derived.Test.YtmkmmenkjbmppaaDoorAnd
import Derived.Test.YtmkmmenkjbmppaaDoorLists
import Derived.Test.YtmkmmenkjbmppaaDoorGrow
import Derived.Test.YtmkmmenkjbmppaaDoorDay
namespace Go.Proofs.YtmkmmenkjbmppaaDoor
open Go.RowKit
structure Incident where
  day : Int
  place : ByteArray
  cause : ByteArray
  level : Int
  caught : Int
  buried : Int
instance : Inhabited Incident := ⟨⟨0, ByteArray.empty, ByteArray.empty, 0, 0, 0⟩⟩
def Incident.cell (x : Incident) : Nat → Value
  | 0 => .int .i64 x.day
  | 1 => .string x.place
  | 2 => .string x.cause
  | 3 => .int .i64 x.level
  | 4 => .int .i64 x.caught
  | _ => .int .i64 x.buried
def Incident.val (x : Incident) : Value := .agg #[.int .i64 x.day, .string x.place, .string x.cause, .int .i64 x.level, .int .i64 x.caught, .int .i64 x.buried]
/-- A slice of these begins at a, and its elements hold l. -/
abbrev IncidentAt (w : World) (a : Option Addr) (l : List Incident) : Prop := RowsAt 6 Incident.cell w a l
theorem Incident.at {w : World} {b off : Nat} {l : List Incident} (h : IncidentAt w (some ⟨b, off, none⟩) l) (k : Nat) (hk : k < l.length) :
    b < w.heap.size ∧ w.cell? ⟨b, off + k * 6, none⟩ = some (.int .i64 (nth l k).day) ∧ w.cell? ⟨b, off + k * 6 + 1, none⟩ = some (.string (nth l k).place) ∧ w.cell? ⟨b, off + k * 6 + 2, none⟩ = some (.string (nth l k).cause) ∧ w.cell? ⟨b, off + k * 6 + 3, none⟩ = some (.int .i64 (nth l k).level) ∧ w.cell? ⟨b, off + k * 6 + 4, none⟩ = some (.int .i64 (nth l k).caught) ∧ w.cell? ⟨b, off + k * 6 + 5, none⟩ = some (.int .i64 (nth l k).buried) :=
  let h' := RowsAt.at h k hk; ⟨h'.1, h'.2 0 (by decide), h'.2 1 (by decide), h'.2 2 (by decide), h'.2 3 (by decide), h'.2 4 (by decide), h'.2 5 (by decide)⟩
/-- The lengths of the strings that come in are those of strings that fit in memory. -/
def Incident.Sz (x : Incident) : Prop := x.place.size ≤ 9223372036854775807 ∧ x.cause.size ≤ 9223372036854775807
def Incident.Small (x : Incident) : Prop := x.place.size ≤ 1048576 ∧ x.cause.size ≤ 1048576
def Incident.Wf (x : Incident) : Prop := (-9223372036854775808 ≤ x.day ∧ x.day ≤ 9223372036854775807) ∧ (-9223372036854775808 ≤ x.level ∧ x.level ≤ 9223372036854775807) ∧ (-9223372036854775808 ≤ x.caught ∧ x.caught ≤ 9223372036854775807) ∧ (-9223372036854775808 ≤ x.buried ∧ x.buried ≤ 9223372036854775807)

def incidentB (x : Incident) : Bool := inB x.day 0 36524 && nameB x.place && nameB x.cause && inB x.level 1 5 && inB x.caught 0 20 && inB x.buried 0 x.caught
theorem incidentB_bd {x : Incident} (h : incidentB x = true) : (0 ≤ x.day ∧ x.day ≤ 36524) ∧ x.place.size ≤ 10 ∧ x.cause.size ≤ 10 ∧ (1 ≤ x.level ∧ x.level ≤ 5) ∧ (0 ≤ x.caught ∧ x.caught ≤ 20) ∧ (0 ≤ x.buried ∧ x.buried ≤ x.caught) := by
  unfold incidentB at h; simp only [Bool.and_eq_true, inB_iff] at h
  exact ⟨h.1.1.1.1.1, nameB_size h.1.1.1.1.2, nameB_size h.1.1.1.2, h.1.1.2, h.1.2, h.2⟩
end Go.Proofs.YtmkmmenkjbmppaaDoor

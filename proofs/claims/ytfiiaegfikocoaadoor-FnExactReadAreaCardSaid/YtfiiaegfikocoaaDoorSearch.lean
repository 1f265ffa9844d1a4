/- Chapter 25: searches. What the program's and the reference's functions on areas hand back. -/
import Derived.Test.YtfiiaegfikocoaaDoorBasics
namespace Go.Proofs.YtfiiaegfikocoaaDoor
open Go.RowKit

structure Area where
  id : ByteArray
  chance : Int
  minutes : Int
instance : Inhabited Area := ⟨⟨ByteArray.empty, 0, 0⟩⟩
def Area.cell (x : Area) : Nat → Value
  | 0 => .string x.id
  | 1 => .int .i64 x.chance
  | _ => .int .i64 x.minutes
def Area.val (x : Area) : Value := .agg #[.string x.id, .int .i64 x.chance, .int .i64 x.minutes]
/-- A slice of these begins at a, and its elements hold l. -/
abbrev AreaAt (w : World) (a : Option Addr) (l : List Area) : Prop := RowsAt 3 Area.cell w a l
theorem Area.at {w : World} {b off : Nat} {l : List Area} (h : AreaAt w (some ⟨b, off, none⟩) l) (k : Nat) (hk : k < l.length) :
    b < w.heap.size ∧ w.cell? ⟨b, off + k * 3, none⟩ = some (.string (nth l k).id) ∧ w.cell? ⟨b, off + k * 3 + 1, none⟩ = some (.int .i64 (nth l k).chance) ∧ w.cell? ⟨b, off + k * 3 + 2, none⟩ = some (.int .i64 (nth l k).minutes) :=
  let h' := RowsAt.at h k hk; ⟨h'.1, h'.2 0 (by decide), h'.2 1 (by decide), h'.2 2 (by decide)⟩
/-- The lengths of the strings that come in are those of strings that fit in memory. -/
def Area.Sz (x : Area) : Prop := x.id.size ≤ 9223372036854775807
def Area.Small (x : Area) : Prop := x.id.size ≤ 1048576
def Area.Wf (x : Area) : Prop := (-9223372036854775808 ≤ x.chance ∧ x.chance ≤ 9223372036854775807) ∧ (-9223372036854775808 ≤ x.minutes ∧ x.minutes ≤ 9223372036854775807)
def areaB (x : Area) : Bool := nameB x.id && inB x.chance 0 1000 && inB x.minutes 1 600

set_option maxHeartbeats 400000 in
theorem Area_valid (x : Area) (w : World) (hs : x.id.size ≤ 1000000000000) :
    Gives Tryd.prog 47 #[.agg #[.string x.id, .int .i64 x.chance, .int .i64 x.minutes]] w (.bool (areaB x)) := by
  have H : Hid (areaB x = (nameB x.id && inB x.chance 0 1000 && inB x.minutes 1 600)) := rfl
  unfold Gives
  cases h1 : nameB x.id <;> cases h2 : inB x.chance 0 1000
  all_goals
    go_enter Tryd.func47, Tryd.ntmps47
    go_wp2_with (first | (go_at_call 52; refine (IsName_any _ _ (by assumption)).mono ?_; rintro e w' ⟨rfl, rfl⟩) | (go_at_call 53; refine (within_any _ _ _ _).mono ?_; rintro e w' ⟨rfl, rfl⟩))
    go_ret
    refine ⟨ret_bool (by rw [H.out]; simp [*]), (Ext.refl _).alloc _⟩
set_option maxHeartbeats 400000 in
theorem l25One_any (b o : Nat) (x : Area) (w : World) (hs : x.id.size ≤ 1000000000000) (c0 : w.cell? ⟨b, o, none⟩ = some (.string x.id)) (c1 : w.cell? ⟨b, o + 1, none⟩ = some (.int .i64 x.chance)) (c2 : w.cell? ⟨b, o + 2, none⟩ = some (.int .i64 x.minutes)) :
    Calls Tryd.prog 20 #[.pointer (some ⟨b, o, none⟩)] w fun e w' => e = .returned (.bool (areaB x)) ∧ w' = w := by
  have H : Hid (areaB x = (nameB x.id && inB x.chance 0 1000 && inB x.minutes 1 600)) := rfl
  cases h1 : nameB x.id <;> cases h2 : inB x.chance 0 1000
  all_goals
    go_enter Tryd.func20, Tryd.ntmps20
    go_wp2_with (first | (go_at_call 42; refine (l01Name_any _ _ (by assumption)).mono ?_; rintro e w' ⟨rfl, rfl⟩) | (go_at_call 43; refine (l00In_any _ _ _ _).mono ?_; rintro e w' ⟨rfl, rfl⟩))
    go_ret
    refine ⟨ret_bool (by rw [H.out]; simp [*]), rfl⟩
def okAt (l : List Area) (k : Nat) : Bool := areaB (nth l k) && (decide (k = 0) || sLt (nth l (k - 1)).id (nth l k).id)
def sumTo (l : List Area) (k : Nat) : Int := ((l.take k).map (·.chance)).sum
def validAreas (l : List Area) : Bool := decide (l.length ≤ 8) && (List.range l.length).all (okAt l) && decide (sumTo l l.length ≤ 1000)
theorem sumTo_succ (l : List Area) (k : Nat) (h : k < l.length) : sumTo l (k + 1) = sumTo l k + (nth l k).chance := by
  unfold sumTo; rw [take_nth l k h]; simp
theorem areaB_parts {x : Area} (h : areaB x = true) : nameB x.id = true ∧ 0 ≤ x.chance ∧ x.chance ≤ 1000 ∧ 1 ≤ x.minutes ∧ x.minutes ≤ 600 := by
  unfold areaB at h; simp only [Bool.and_eq_true, inB_iff] at h; exact ⟨h.1.1, h.1.2.1, h.1.2.2, h.2.1, h.2.2⟩
theorem okAt_area {l : List Area} {k : Nat} (h : okAt l k = true) : areaB (nth l k) = true := by unfold okAt at h; simp only [Bool.and_eq_true] at h; exact h.1
theorem sumTo_bd {l : List Area} : ∀ {k : Nat}, k ≤ l.length → (∀ j, j < k → okAt l j = true) → 0 ≤ sumTo l k ∧ sumTo l k ≤ 1000 * k
  | 0, _, _ => by simp [sumTo]
  | k + 1, hk, h => by
    have := sumTo_bd (l := l) (k := k) (by omega) (fun j hj => h j (by omega))
    have := areaB_parts (okAt_area (h k (by omega)))
    rw [sumTo_succ l k (by omega)]; omega
theorem validAreas_bad {l : List Area} {k : Nat} (hk : k < l.length) (h : okAt l k = false) : false = validAreas l := by
  symm; unfold validAreas
  rw [show (List.range l.length).all (okAt l) = false by rw [List.all_eq_false]; exact ⟨k, by simpa using hk, by simp [h]⟩]
  simp
theorem validAreas_len {l : List Area} (h : 8 < l.length) : false = validAreas l := by
  unfold validAreas; rw [show decide (l.length ≤ 8) = false from decide_eq_false (by omega)]; rfl
theorem validAreas_end {l : List Area} (h : ∀ j, j < l.length → okAt l j = true) : validAreas l = (decide (l.length ≤ 8) && decide (sumTo l l.length ≤ 1000)) := by
  unfold validAreas
  rw [show (List.range l.length).all (okAt l) = true by rw [List.all_eq_true]; intro x hx; exact h x (by simpa using hx)]
  simp
theorem okAt_false1 {l : List Area} {k : Nat} (h : areaB (nth l k) = false) : okAt l k = false := by unfold okAt; rw [h]; rfl
theorem okAt_false2 {l : List Area} {k : Nat} (h : 0 < k) (h' : sLt (nth l (k - 1)).id (nth l k).id = false) : okAt l k = false := by
  unfold okAt; rw [h', show decide (k = 0) = false from decide_eq_false (by omega)]; simp
theorem okAt_true0 {l : List Area} {k : Nat} (h : areaB (nth l k) = true) (hk : k = 0) : okAt l k = true := by unfold okAt; rw [h, hk]; rfl
theorem okAt_true1 {l : List Area} {k : Nat} (h : areaB (nth l k) = true) (h' : sLt (nth l (k - 1)).id (nth l k).id = true) : okAt l k = true := by unfold okAt; rw [h, h']; simp
/-- The lengths of the strings that come in. -/
def AreaSz (l : List Area) : Prop := ∀ k, k < l.length → (nth l k).id.size ≤ 1000000000000

end Go.Proofs.YtfiiaegfikocoaaDoor

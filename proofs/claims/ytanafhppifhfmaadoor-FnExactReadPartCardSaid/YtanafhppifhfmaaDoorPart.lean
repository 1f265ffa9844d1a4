/- Chapter 12: parts as text. What the program's and the reference's functions on one part hand back. -/
import Derived.Test.YtanafhppifhfmaaDoorListText
import Derived.StillTailTactics
namespace Go.Proofs.YtanafhppifhfmaaDoor
open Go.RowKit
structure Part where
  length : Int
  width : Int
  depth : Int
  density : Int
instance : Inhabited Part := ⟨⟨0, 0, 0, 0⟩⟩
def Part.cell (x : Part) : Nat → Value
  | 0 => .int .i64 x.length
  | 1 => .int .i64 x.width
  | 2 => .int .i64 x.depth
  | _ => .int .i64 x.density
def Part.val (x : Part) : Value := .agg #[.int .i64 x.length, .int .i64 x.width, .int .i64 x.depth, .int .i64 x.density]
/-- A slice of these begins at a, and its elements hold l. -/
abbrev PartAt (w : World) (a : Option Addr) (l : List Part) : Prop := RowsAt 4 Part.cell w a l
theorem Part.at {w : World} {b off : Nat} {l : List Part} (h : PartAt w (some ⟨b, off, none⟩) l) (k : Nat) (hk : k < l.length) :
    b < w.heap.size ∧ w.cell? ⟨b, off + k * 4, none⟩ = some (.int .i64 (nth l k).length) ∧ w.cell? ⟨b, off + k * 4 + 1, none⟩ = some (.int .i64 (nth l k).width) ∧ w.cell? ⟨b, off + k * 4 + 2, none⟩ = some (.int .i64 (nth l k).depth) ∧ w.cell? ⟨b, off + k * 4 + 3, none⟩ = some (.int .i64 (nth l k).density) :=
  let h' := RowsAt.at h k hk; ⟨h'.1, h'.2 0 (by decide), h'.2 1 (by decide), h'.2 2 (by decide), h'.2 3 (by decide)⟩
/-- The lengths of the strings that come in are those of strings that fit in memory. -/
def Part.Sz (_x : Part) : Prop := True
def Part.Small (_x : Part) : Prop := True
def Part.Wf (x : Part) : Prop := (-9223372036854775808 ≤ x.length ∧ x.length ≤ 9223372036854775807) ∧ (-9223372036854775808 ≤ x.width ∧ x.width ≤ 9223372036854775807) ∧ (-9223372036854775808 ≤ x.depth ∧ x.depth ≤ 9223372036854775807) ∧ (-9223372036854775808 ≤ x.density ∧ x.density ≤ 9223372036854775807)
def partB (x : Part) : Bool := inB x.length 1 2000 && inB x.width 1 500 && inB x.depth 0 500 && inB x.density 1 1000
def partS (x : Part) : ByteArray := if partB x = true then listS [x.length, x.width, x.depth, x.density] else ⟨#[]⟩
theorem partB_bd {x : Part} (h : partB x = true) : (1 ≤ x.length ∧ x.length ≤ 2000) ∧ (1 ≤ x.width ∧ x.width ≤ 500) ∧ (0 ≤ x.depth ∧ x.depth ≤ 500) ∧ (1 ≤ x.density ∧ x.density ≤ 1000) := by
  unfold partB at h; simp only [Bool.and_eq_true, inB_iff] at h; exact ⟨h.1.1.1, h.1.1.2, h.1.2, h.2⟩
set_option maxHeartbeats 1000000 in
theorem Part_valid (x : Part) (w : World) :
    Gives Tryd.prog 99 #[.agg #[.int .i64 x.length, .int .i64 x.width, .int .i64 x.depth, .int .i64 x.density]] w (.bool (partB x)) := by
  have H : Hid (partB x = (inB x.length 1 2000 && inB x.width 1 500 && inB x.depth 0 500 && inB x.density 1 1000)) := rfl
  unfold Gives
  cases h1 : inB x.length 1 2000 <;> cases h2 : inB x.width 1 500 <;> cases h3 : inB x.depth 0 500
  all_goals
    go_enter Tryd.func99, Tryd.ntmps99
    go_wp2_with (go_at_call 119; refine (within_any _ _ _ _).mono ?_; rintro e w' ⟨rfl, rfl⟩)
    go_ret
    exact ⟨ret_bool (by rw [H.out]; simp [*]), (Ext.refl _).alloc _⟩
theorem l02Density_any (n : Int) (w : World) : Calls Tryd.prog 97 #[.int .i64 n] w fun e w' => e = .returned (.bool (inB n 1 1000)) ∧ w' = w := by
  go_enter Tryd.func97, Tryd.ntmps97
  go_wp2_with (go_at_call 92; refine (l00In_any _ _ _ _).mono ?_; rintro e w' ⟨rfl, rfl⟩)
  go_ret
  exact ⟨rfl, rfl⟩
set_option maxHeartbeats 1000000 in
theorem l12One_any (b o : Nat) (x : Part) (w : World) (c0 : w.cell? ⟨b, o, none⟩ = some (.int .i64 x.length)) (c1 : w.cell? ⟨b, o + 1, none⟩ = some (.int .i64 x.width)) (c2 : w.cell? ⟨b, o + 2, none⟩ = some (.int .i64 x.depth)) (c3 : w.cell? ⟨b, o + 3, none⟩ = some (.int .i64 x.density)) :
    Calls Tryd.prog 56 #[.pointer (some ⟨b, o, none⟩)] w fun e w' => e = .returned (.bool (partB x)) ∧ w' = w := by
  have H : Hid (partB x = (inB x.length 1 2000 && inB x.width 1 500 && inB x.depth 0 500 && inB x.density 1 1000)) := rfl
  cases h1 : inB x.length 1 2000 <;> cases h2 : inB x.width 1 500 <;> cases h3 : inB x.depth 0 500
  all_goals
    go_enter Tryd.func56, Tryd.ntmps56
    go_wp2_with (first | (go_at_call 92; refine (l00In_any _ _ _ _).mono ?_; rintro e w' ⟨rfl, rfl⟩) | (go_at_call 97; refine (l02Density_any _ _).mono ?_; rintro e w' ⟨rfl, rfl⟩))
    go_ret
    exact ⟨ret_bool (by rw [H.out]; simp [*]), rfl⟩
set_option maxHeartbeats 1000000 in
theorem implPartText (x : Part) (w : World) (ht : Tab w) :
    Gives Tryd.prog 58 #[.agg #[.int .i64 x.length, .int .i64 x.width, .int .i64 x.depth, .int .i64 x.density]] w (.string (partS x)) := by
  unfold Gives
  have HT := Lib.hid ht
  clear ht
  cases h : partB x
  · have hv : Hid ((⟨#[]⟩ : ByteArray) = partS x) := by show _ = _; unfold partS; rw [h]; rfl
    go_enter Tryd.func58, Tryd.ntmps58
    go_wp2_with (go_at_call 99; refine (Part_valid x _).mono ?_; rintro e w' ⟨rfl, y, rfl⟩; rw [h])
    go_ret
    exact ⟨by rw [← hv.out]; rfl, ((Ext.refl _).alloc _).lift y⟩
  · have hv : Hid (listS [x.length, x.width, x.depth, x.density] = partS x) := by show _ = _; unfold partS; rw [if_pos h]
    have hb := Lib.hid (partB_bd h)
    go_enter Tryd.func58, Tryd.ntmps58
    go_wp2_with fail
    refine (Part_valid x _).mono ?_
    rintro e w' ⟨rfl, y, rfl⟩
    rw [h]
    go_wp2_with fail
    refine (ListText_any _ 4 [x.length, x.width, x.depth, x.density] _ (intAt_new' _ _ _ _ (by intro k hk; simp at hk; rcases (show k = 0 ∨ k = 1 ∨ k = 2 ∨ k = 3 by omega) with rfl | rfl | rfl | rfl <;> rfl) (by simp only [lift_size, size_new]))
      (by intro k hk; simp at hk; rw [inB_iff]; have := hb.out; rcases (show k = 0 ∨ k = 1 ∨ k = 2 ∨ k = 3 by omega) with rfl | rfl | rfl | rfl <;> simp [nth] <;> omega) (by simp) (HT.out.ext (by repeat (first | exact Ext.refl _ | refine Ext.lift ?_ _ | refine Ext.alloc ?_ _)))).mono ?_
    rintro e w' ⟨rfl, z, rfl⟩
    go_wp2_with fail
    go_ret
    exact ⟨by rw [← hv.out]; rfl, (by repeat (first | exact Ext.refl _ | refine Ext.lift ?_ _ | refine Ext.alloc ?_ _))⟩
end Go.Proofs.YtanafhppifhfmaaDoor

/- A stand: when it is valid. What the program's and the reference's functions say. -/
import Derived.Test.YtmkmmenkjbmppaaAnd
import Derived.Test.YtmkmmenkjbmppaaLists
import Derived.Test.YtmkmmenkjbmppaaGrow
namespace Go.Proofs.Ytmkmmenkjbmppaa
open Go.RowKit
structure Stand where
  id : ByteArray
  trees : Int
  height : Int
  cover : Int
  gap : Int
instance : Inhabited Stand := ⟨⟨ByteArray.empty, 0, 0, 0, 0⟩⟩
def Stand.cell (x : Stand) : Nat → Value
  | 0 => .string x.id
  | 1 => .int .i64 x.trees
  | 2 => .int .i64 x.height
  | 3 => .int .i64 x.cover
  | _ => .int .i64 x.gap
def Stand.val (x : Stand) : Value := .agg #[.string x.id, .int .i64 x.trees, .int .i64 x.height, .int .i64 x.cover, .int .i64 x.gap]
/-- A slice of these begins at a, and its elements hold l. -/
abbrev StandAt (w : World) (a : Option Addr) (l : List Stand) : Prop := RowsAt 5 Stand.cell w a l
theorem Stand.at {w : World} {b off : Nat} {l : List Stand} (h : StandAt w (some ⟨b, off, none⟩) l) (k : Nat) (hk : k < l.length) :
    b < w.heap.size ∧ w.cell? ⟨b, off + k * 5, none⟩ = some (.string (nth l k).id) ∧ w.cell? ⟨b, off + k * 5 + 1, none⟩ = some (.int .i64 (nth l k).trees) ∧ w.cell? ⟨b, off + k * 5 + 2, none⟩ = some (.int .i64 (nth l k).height) ∧ w.cell? ⟨b, off + k * 5 + 3, none⟩ = some (.int .i64 (nth l k).cover) ∧ w.cell? ⟨b, off + k * 5 + 4, none⟩ = some (.int .i64 (nth l k).gap) :=
  let h' := RowsAt.at h k hk; ⟨h'.1, h'.2 0 (by decide), h'.2 1 (by decide), h'.2 2 (by decide), h'.2 3 (by decide), h'.2 4 (by decide)⟩
/-- The lengths of the strings that come in are those of strings that fit in memory. -/
def Stand.Sz (x : Stand) : Prop := x.id.size ≤ 9223372036854775807
def Stand.Small (x : Stand) : Prop := x.id.size ≤ 1048576
def Stand.Wf (x : Stand) : Prop := (-9223372036854775808 ≤ x.trees ∧ x.trees ≤ 9223372036854775807) ∧ (-9223372036854775808 ≤ x.height ∧ x.height ≤ 9223372036854775807) ∧ (-9223372036854775808 ≤ x.cover ∧ x.cover ≤ 9223372036854775807) ∧ (-9223372036854775808 ≤ x.gap ∧ x.gap ≤ 9223372036854775807)

def standB (x : Stand) : Bool := nameB x.id && inB x.trees 0 2000 && inB x.height 0 5000 && inB x.cover 0 1000 && inB x.gap 0 100
theorem standB_bd {x : Stand} (h : standB x = true) : x.id.size ≤ 10 ∧ (0 ≤ x.trees ∧ x.trees ≤ 2000) ∧ (0 ≤ x.height ∧ x.height ≤ 5000) ∧ (0 ≤ x.cover ∧ x.cover ≤ 1000) ∧ (0 ≤ x.gap ∧ x.gap ≤ 100) := by
  unfold standB at h; simp only [Bool.and_eq_true, inB_iff] at h
  exact ⟨nameB_size h.1.1.1.1, h.1.1.1.2, h.1.1.2, h.1.2, h.2⟩
set_option maxRecDepth 100000 in
set_option maxHeartbeats 2000000 in
theorem Stand_valid (x : Stand) (w : World) (hs0 : x.id.size ≤ 2000000) :
    Gives Try.prog 34 #[.agg #[.string x.id, .int .i64 x.trees, .int .i64 x.height, .int .i64 x.cover, .int .i64 x.gap]] w (.bool (standB x)) := by
  have H : Hid (standB x = (nameB x.id && inB x.trees 0 2000 && inB x.height 0 5000 && inB x.cover 0 1000 && inB x.gap 0 100)) := rfl
  unfold Gives
  rcases and5 (nameB x.id) (inB x.trees 0 2000) (inB x.height 0 5000) (inB x.cover 0 1000) with h0 | ⟨h0, h1⟩ | ⟨h0, h1, h2⟩ | ⟨h0, h1, h2, h3⟩ | ⟨h0, h1, h2, h3⟩
  all_goals
    skip
    go_enter Try.func34, Try.ntmps34
    go_wp2_with (first | (go_at_call 24; refine (within_any _ _ _ _).mono ?_; rintro e w' ⟨rfl, rfl⟩) | (go_at_call 44; refine (IsName_any _ _ (by omega)).mono ?_; rintro e w' ⟨rfl, rfl⟩))
    go_ret
    exact ⟨ret_bool (by rw [H.out]; simp [*]), (by repeat (first | exact Ext.refl _ | refine Ext.lift ?_ _ | refine Ext.alloc ?_ _))⟩
set_option maxRecDepth 100000 in
set_option maxHeartbeats 2000000 in
theorem l10One_any (b o : Nat) (x : Stand) (w : World) (hs0 : x.id.size ≤ 2000000) (c0 : w.cell? ⟨b, o, none⟩ = some (.string x.id)) (c1 : w.cell? ⟨b, o + 1, none⟩ = some (.int .i64 x.trees)) (c2 : w.cell? ⟨b, o + 2, none⟩ = some (.int .i64 x.height)) (c3 : w.cell? ⟨b, o + 3, none⟩ = some (.int .i64 x.cover)) (c4 : w.cell? ⟨b, o + 4, none⟩ = some (.int .i64 x.gap)) :
    Gives Try.prog 29 #[.pointer (some ⟨b, o, none⟩)] w (.bool (standB x)) := by
  have H : Hid (standB x = (nameB x.id && inB x.trees 0 2000 && inB x.height 0 5000 && inB x.cover 0 1000 && inB x.gap 0 100)) := rfl
  have hbl := block_lt c0
  unfold Gives
  rcases and5 (nameB x.id) (inB x.trees 0 2000) (inB x.height 0 5000) (inB x.cover 0 1000) with h0 | ⟨h0, h1⟩ | ⟨h0, h1, h2⟩ | ⟨h0, h1, h2, h3⟩ | ⟨h0, h1, h2, h3⟩
  all_goals
    skip
    go_enter Try.func29, Try.ntmps29
    go_wp2_with (first | (go_at_call 16; refine (l00In_any _ _ _ _).mono ?_; rintro e w' ⟨rfl, rfl⟩) | (go_at_call 41; refine (l01Name_any _ _ (by omega)).mono ?_; rintro e w' ⟨rfl, rfl⟩))
    go_ret
    exact ⟨ret_bool (by rw [H.out]; simp [*]), Ext.refl _⟩
end Go.Proofs.Ytmkmmenkjbmppaa

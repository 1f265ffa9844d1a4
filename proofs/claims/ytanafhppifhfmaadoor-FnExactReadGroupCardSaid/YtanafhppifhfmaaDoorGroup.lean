/- A group: when it is valid. What the program's and the reference's functions say. -/
import Derived.Test.YtanafhppifhfmaaDoorAnd
import Derived.Test.YtanafhppifhfmaaDoorLists
import Derived.Test.YtanafhppifhfmaaDoorGrow
import Derived.Test.YtanafhppifhfmaaDoorListText
namespace Go.Proofs.YtanafhppifhfmaaDoor
open Go.RowKit
structure Group where
  id : ByteArray
  people : Int
  guides : Int
  beacons : Int
  shovels : Int
  probes : Int
  skill : Int
instance : Inhabited Group := ⟨⟨ByteArray.empty, 0, 0, 0, 0, 0, 0⟩⟩
def Group.cell (x : Group) : Nat → Value
  | 0 => .string x.id
  | 1 => .int .i64 x.people
  | 2 => .int .i64 x.guides
  | 3 => .int .i64 x.beacons
  | 4 => .int .i64 x.shovels
  | 5 => .int .i64 x.probes
  | _ => .int .i64 x.skill
def Group.val (x : Group) : Value := .agg #[.string x.id, .int .i64 x.people, .int .i64 x.guides, .int .i64 x.beacons, .int .i64 x.shovels, .int .i64 x.probes, .int .i64 x.skill]
/-- A slice of these begins at a, and its elements hold l. -/
abbrev GroupAt (w : World) (a : Option Addr) (l : List Group) : Prop := RowsAt 7 Group.cell w a l
theorem Group.at {w : World} {b off : Nat} {l : List Group} (h : GroupAt w (some ⟨b, off, none⟩) l) (k : Nat) (hk : k < l.length) :
    b < w.heap.size ∧ w.cell? ⟨b, off + k * 7, none⟩ = some (.string (nth l k).id) ∧ w.cell? ⟨b, off + k * 7 + 1, none⟩ = some (.int .i64 (nth l k).people) ∧ w.cell? ⟨b, off + k * 7 + 2, none⟩ = some (.int .i64 (nth l k).guides) ∧ w.cell? ⟨b, off + k * 7 + 3, none⟩ = some (.int .i64 (nth l k).beacons) ∧ w.cell? ⟨b, off + k * 7 + 4, none⟩ = some (.int .i64 (nth l k).shovels) ∧ w.cell? ⟨b, off + k * 7 + 5, none⟩ = some (.int .i64 (nth l k).probes) ∧ w.cell? ⟨b, off + k * 7 + 6, none⟩ = some (.int .i64 (nth l k).skill) :=
  let h' := RowsAt.at h k hk; ⟨h'.1, h'.2 0 (by decide), h'.2 1 (by decide), h'.2 2 (by decide), h'.2 3 (by decide), h'.2 4 (by decide), h'.2 5 (by decide), h'.2 6 (by decide)⟩
/-- The lengths of the strings that come in are those of strings that fit in memory. -/
def Group.Sz (x : Group) : Prop := x.id.size ≤ 9223372036854775807
def Group.Small (x : Group) : Prop := x.id.size ≤ 1048576
def Group.Wf (x : Group) : Prop := (-9223372036854775808 ≤ x.people ∧ x.people ≤ 9223372036854775807) ∧ (-9223372036854775808 ≤ x.guides ∧ x.guides ≤ 9223372036854775807) ∧ (-9223372036854775808 ≤ x.beacons ∧ x.beacons ≤ 9223372036854775807) ∧ (-9223372036854775808 ≤ x.shovels ∧ x.shovels ≤ 9223372036854775807) ∧ (-9223372036854775808 ≤ x.probes ∧ x.probes ≤ 9223372036854775807) ∧ (-9223372036854775808 ≤ x.skill ∧ x.skill ≤ 9223372036854775807)

def groupB (x : Group) : Bool := nameB x.id && inB x.people 1 30 && inB x.guides 0 x.people && inB x.beacons 0 30 && inB x.shovels 0 30 && inB x.probes 0 30 && inB x.skill 1 5
theorem groupB_bd {x : Group} (h : groupB x = true) : x.id.size ≤ 10 ∧ (1 ≤ x.people ∧ x.people ≤ 30) ∧ (0 ≤ x.guides ∧ x.guides ≤ x.people) ∧ (0 ≤ x.beacons ∧ x.beacons ≤ 30) ∧ (0 ≤ x.shovels ∧ x.shovels ≤ 30) ∧ (0 ≤ x.probes ∧ x.probes ≤ 30) ∧ (1 ≤ x.skill ∧ x.skill ≤ 5) := by
  unfold groupB at h; simp only [Bool.and_eq_true, inB_iff] at h
  exact ⟨nameB_size h.1.1.1.1.1.1, h.1.1.1.1.1.2, h.1.1.1.1.2, h.1.1.1.2, h.1.1.2, h.1.2, h.2⟩
theorem groupB_impl (x : Group) : groupB x = (nameB x.id && inB x.people 1 30 && inB x.guides 0 x.people && allIn [x.beacons, x.shovels, x.probes] 0 30 && inB x.skill 1 5) := by
  unfold groupB
  simp [allIn, Bool.and_assoc]
set_option maxRecDepth 100000 in
set_option maxHeartbeats 2000000 in
theorem Group_valid (x : Group) (w : World) (hs0 : x.id.size ≤ 2000000) :
    Gives Tryd.prog 112 #[.agg #[.string x.id, .int .i64 x.people, .int .i64 x.guides, .int .i64 x.beacons, .int .i64 x.shovels, .int .i64 x.probes, .int .i64 x.skill]] w (.bool (groupB x)) := by
  have H : Hid (groupB x = (nameB x.id && inB x.people 1 30 && inB x.guides 0 x.people && allIn [x.beacons, x.shovels, x.probes] 0 30 && inB x.skill 1 5)) := groupB_impl x
  unfold Gives
  rcases and5 (nameB x.id) (inB x.people 1 30) (inB x.guides 0 x.people) (allIn [x.beacons, x.shovels, x.probes] 0 30) with h0 | ⟨h0, h1⟩ | ⟨h0, h1, h2⟩ | ⟨h0, h1, h2, h3⟩ | ⟨h0, h1, h2, h3⟩
  all_goals
    go_enter Tryd.func112, Tryd.ntmps112
    go_wp2_with (first | (go_at_call 119; refine (within_any _ _ _ _).mono ?_; rintro e w' ⟨rfl, rfl⟩) | (go_at_call 118; refine (IsName_any _ _ (by omega)).mono ?_; rintro e w' ⟨rfl, rfl⟩) | (go_at_call 121; refine (allWithin_any _ 3 [x.beacons, x.shovels, x.probes] 0 30 _ (intAt_new' _ _ _ _ (by intro k hk; simp at hk; rcases (show k = 0 ∨ k = 1 ∨ k = 2 by omega) with rfl | rfl | rfl <;> rfl) (by simp only [size_new])) (by simp)).mono ?_; rintro e w' ⟨rfl, y, rfl⟩))
    go_ret
    exact ⟨ret_bool (by rw [H.out]; simp [*]), (by repeat (first | exact Ext.refl _ | refine Ext.lift ?_ _ | refine Ext.alloc ?_ _))⟩
set_option maxRecDepth 100000 in
set_option maxHeartbeats 2000000 in
theorem l24One_any (b o : Nat) (x : Group) (w : World) (hs0 : x.id.size ≤ 2000000) (c0 : w.cell? ⟨b, o, none⟩ = some (.string x.id)) (c1 : w.cell? ⟨b, o + 1, none⟩ = some (.int .i64 x.people)) (c2 : w.cell? ⟨b, o + 2, none⟩ = some (.int .i64 x.guides)) (c3 : w.cell? ⟨b, o + 3, none⟩ = some (.int .i64 x.beacons)) (c4 : w.cell? ⟨b, o + 4, none⟩ = some (.int .i64 x.shovels)) (c5 : w.cell? ⟨b, o + 5, none⟩ = some (.int .i64 x.probes)) (c6 : w.cell? ⟨b, o + 6, none⟩ = some (.int .i64 x.skill)) :
    Gives Tryd.prog 111 #[.pointer (some ⟨b, o, none⟩)] w (.bool (groupB x)) := by
  have H : Hid (groupB x = (nameB x.id && inB x.people 1 30 && inB x.guides 0 x.people && inB x.beacons 0 30 && inB x.shovels 0 30 && inB x.probes 0 30 && inB x.skill 1 5)) := rfl
  have hbl := block_lt c0
  unfold Gives
  rcases and7 (nameB x.id) (inB x.people 1 30) (inB x.guides 0 x.people) (inB x.beacons 0 30) (inB x.shovels 0 30) (inB x.probes 0 30) with h0 | ⟨h0, h1⟩ | ⟨h0, h1, h2⟩ | ⟨h0, h1, h2, h3⟩ | ⟨h0, h1, h2, h3, h4⟩ | ⟨h0, h1, h2, h3, h4, h5⟩ | ⟨h0, h1, h2, h3, h4, h5⟩
  all_goals
    skip
    go_enter Tryd.func111, Tryd.ntmps111
    go_wp2_with fail
    refine region_quiet (by kernel_rfl) (by kernel_rfl) ?_
    repeat (any_goals (first | go_big_quiet_step ((first | (exact Gives.quiet (Gives.same (l00In_any _ _ _ _))) | (exact Gives.quiet (Gives.same (l01Name_any _ _ (by omega)))))) | quiet_step ((first | (exact Gives.quiet (Gives.same (l00In_any _ _ _ _))) | (exact Gives.quiet (Gives.same (l01Name_any _ _ (by omega))))))))
    refine wpQuiet_nil ?_
    intro _ hw'
    obtain ⟨y, hw''⟩ := hw'
    subst hw''
    go_wp2
    go_ret
    exact ⟨ret_bool (by rw [H.out]; simp [*]), (by repeat (first | exact Ext.refl _ | refine Ext.lift ?_ _ | refine Ext.alloc ?_ _))⟩
end Go.Proofs.YtanafhppifhfmaaDoor

/- A stand as text. What the program's and the reference's functions on one hand back. -/
import Derived.Test.YtpjojmkbccdofaaDoorWithId
import Derived.Test.YtpjojmkbccdofaaDoorGrow
namespace Go.Proofs.YtpjojmkbccdofaaDoor
open Go.RowKit
structure Stand where
  id : ByteArray
  trees : Int
  height : Int
  cover : Int
  gap : Int
instance : Inhabited Stand := ⟨⟨ByteArray.empty, 0, 0, 0, 0⟩⟩
def Stand.cell (x : Stand) : Nat → Value
  | 0 => .string x.id
  | 1 => .int .i64 x.trees
  | 2 => .int .i64 x.height
  | 3 => .int .i64 x.cover
  | _ => .int .i64 x.gap
def Stand.val (x : Stand) : Value := .agg #[.string x.id, .int .i64 x.trees, .int .i64 x.height, .int .i64 x.cover, .int .i64 x.gap]
/-- A slice of these begins at a, and its elements hold l. -/
abbrev StandAt (w : World) (a : Option Addr) (l : List Stand) : Prop := RowsAt 5 Stand.cell w a l
theorem Stand.at {w : World} {b off : Nat} {l : List Stand} (h : StandAt w (some ⟨b, off, none⟩) l) (k : Nat) (hk : k < l.length) :
    b < w.heap.size ∧ w.cell? ⟨b, off + k * 5, none⟩ = some (.string (nth l k).id) ∧ w.cell? ⟨b, off + k * 5 + 1, none⟩ = some (.int .i64 (nth l k).trees) ∧ w.cell? ⟨b, off + k * 5 + 2, none⟩ = some (.int .i64 (nth l k).height) ∧ w.cell? ⟨b, off + k * 5 + 3, none⟩ = some (.int .i64 (nth l k).cover) ∧ w.cell? ⟨b, off + k * 5 + 4, none⟩ = some (.int .i64 (nth l k).gap) :=
  let h' := RowsAt.at h k hk; ⟨h'.1, h'.2 0 (by decide), h'.2 1 (by decide), h'.2 2 (by decide), h'.2 3 (by decide), h'.2 4 (by decide)⟩
/-- The lengths of the strings that come in are those of strings that fit in memory. -/
def Stand.Sz (x : Stand) : Prop := x.id.size ≤ 9223372036854775807
def Stand.Small (x : Stand) : Prop := x.id.size ≤ 1048576
def Stand.Wf (x : Stand) : Prop := (-9223372036854775808 ≤ x.trees ∧ x.trees ≤ 9223372036854775807) ∧ (-9223372036854775808 ≤ x.height ∧ x.height ≤ 9223372036854775807) ∧ (-9223372036854775808 ≤ x.cover ∧ x.cover ≤ 9223372036854775807) ∧ (-9223372036854775808 ≤ x.gap ∧ x.gap ≤ 9223372036854775807)

def standB (x : Stand) : Bool := nameB x.id && inB x.trees 0 2000 && inB x.height 0 5000 && inB x.cover 0 1000 && inB x.gap 0 100
def standS (x : Stand) : ByteArray := if standB x = true then withS x.id [x.trees, x.height, x.cover, x.gap] else ⟨#[]⟩
theorem standB_bd {x : Stand} (h : standB x = true) : x.id.size ≤ 10 ∧ (0 ≤ x.trees ∧ x.trees ≤ 2000) ∧ (0 ≤ x.height ∧ x.height ≤ 5000) ∧ (0 ≤ x.cover ∧ x.cover ≤ 1000) ∧ (0 ≤ x.gap ∧ x.gap ≤ 100) := by
  unfold standB at h; simp only [Bool.and_eq_true, inB_iff, decide_eq_true_eq] at h
  exact ⟨nameB_size h.1.1.1.1, h.1.1.1.2, h.1.1.2, h.1.2, h.2⟩
set_option maxRecDepth 100000 in
set_option maxHeartbeats 2000000 in
theorem Stand_valid (x : Stand) (w : World) (hs0 : x.id.size ≤ 2000000) :
    Gives Tryd.prog 68 #[.agg #[.string x.id, .int .i64 x.trees, .int .i64 x.height, .int .i64 x.cover, .int .i64 x.gap]] w (.bool (standB x)) := by
  have H : Hid (standB x = (nameB x.id && inB x.trees 0 2000 && inB x.height 0 5000 && inB x.cover 0 1000 && inB x.gap 0 100)) := rfl
  unfold Gives
  rcases and5 (nameB x.id) (inB x.trees 0 2000) (inB x.height 0 5000) (inB x.cover 0 1000) with h0 | ⟨h0, h1⟩ | ⟨h0, h1, h2⟩ | ⟨h0, h1, h2, h3⟩ | ⟨h0, h1, h2, h3⟩
  all_goals
    skip
    go_enter Tryd.func68, Tryd.ntmps68
    go_wp2_with (first | (go_at_call 89; refine (within_any _ _ _ _).mono ?_; rintro e w' ⟨rfl, rfl⟩) | (go_at_call 106; refine (IsName_any _ _ (by omega)).mono ?_; rintro e w' ⟨rfl, rfl⟩))
    go_ret
    exact ⟨ret_bool (by rw [H.out]; simp [*]), (by repeat (first | exact Ext.refl _ | refine Ext.lift ?_ _ | refine Ext.alloc ?_ _))⟩
set_option maxRecDepth 100000 in
set_option maxHeartbeats 2000000 in
theorem l10One_any (b o : Nat) (x : Stand) (w : World) (hs0 : x.id.size ≤ 2000000) (c0 : w.cell? ⟨b, o, none⟩ = some (.string x.id)) (c1 : w.cell? ⟨b, o + 1, none⟩ = some (.int .i64 x.trees)) (c2 : w.cell? ⟨b, o + 2, none⟩ = some (.int .i64 x.height)) (c3 : w.cell? ⟨b, o + 3, none⟩ = some (.int .i64 x.cover)) (c4 : w.cell? ⟨b, o + 4, none⟩ = some (.int .i64 x.gap)) :
    Gives Tryd.prog 66 #[.pointer (some ⟨b, o, none⟩)] w (.bool (standB x)) := by
  have H : Hid (standB x = (nameB x.id && inB x.trees 0 2000 && inB x.height 0 5000 && inB x.cover 0 1000 && inB x.gap 0 100)) := rfl
  have hbl := block_lt c0
  unfold Gives
  rcases and5 (nameB x.id) (inB x.trees 0 2000) (inB x.height 0 5000) (inB x.cover 0 1000) with h0 | ⟨h0, h1⟩ | ⟨h0, h1, h2⟩ | ⟨h0, h1, h2, h3⟩ | ⟨h0, h1, h2, h3⟩
  all_goals
    skip
    go_enter Tryd.func66, Tryd.ntmps66
    go_wp2_with (first | (go_at_call 84; refine (l00In_any _ _ _ _).mono ?_; rintro e w' ⟨rfl, rfl⟩) | (go_at_call 105; refine (l01Name_any _ _ (by omega)).mono ?_; rintro e w' ⟨rfl, rfl⟩))
    go_ret
    exact ⟨ret_bool (by rw [H.out]; simp [*]), Ext.refl _⟩
set_option maxRecDepth 100000 in
set_option maxHeartbeats 2000000 in
theorem l10Text_any (b o : Nat) (x : Stand) (w : World) (hx : standB x = true) (c0 : w.cell? ⟨b, o, none⟩ = some (.string x.id)) (c1 : w.cell? ⟨b, o + 1, none⟩ = some (.int .i64 x.trees)) (c2 : w.cell? ⟨b, o + 2, none⟩ = some (.int .i64 x.height)) (c3 : w.cell? ⟨b, o + 3, none⟩ = some (.int .i64 x.cover)) (c4 : w.cell? ⟨b, o + 4, none⟩ = some (.int .i64 x.gap)) :
    Gives Tryd.prog 67 #[.pointer (some ⟨b, o, none⟩)] w (.string (standS x)) := by
  unfold Gives
  have hv : Hid (x.id ++ ⟨#[32]⟩ ++ listS [x.trees, x.height, x.cover, x.gap] = standS x) := by show _ = _; unfold standS; rw [if_pos hx]; rfl
  have hb := Lib.hid (standB_bd hx)
  have hw : ∀ k, k < [x.trees, x.height, x.cover, x.gap].length → -9223372036854775808 ≤ nth [x.trees, x.height, x.cover, x.gap] k ∧ nth [x.trees, x.height, x.cover, x.gap] k ≤ 9223372036854775807 := by
    intro k hk; simp at hk; have := hb.out; rcases (show k = 0 ∨ k = 1 ∨ k = 2 ∨ k = 3 by omega) with rfl | rfl | rfl | rfl <;> simp [nth] <;> omega
  have hl : (listS [x.trees, x.height, x.cover, x.gap]).size ≤ 89 := by have := listS_size hw; simpa using this
  have h1 : (x.id ++ ⟨#[32]⟩).size ≤ 11 := by rw [ByteArray.size_append]; have : (⟨#[32]⟩ : ByteArray).size = 1 := rfl; have := hb.out; omega
  have h2 : (x.id ++ ⟨#[32]⟩ ++ listS [x.trees, x.height, x.cover, x.gap]).size ≤ 100 := by rw [ByteArray.size_append]; omega
  have hid : x.id.size ≤ 10 := by have := hb.out; omega
  have HW := Lib.hid hw
  have hbl := block_lt c0
  clear hx hw
  go_enter Tryd.func67, Tryd.ntmps67
  go_wp2_with fail
  refine Grow.region [0, 1, 2, 3, 4, 5, 6, 7, 8, 9, 10, 11, 12, 13, 14, 15, 16, 17, 18, 19, 20] [21, 22, 23, 24] (by kernel_rfl) (by kernel_rfl) ?_
  simp only [Grow.pick, List.getElem?_cons_succ, List.getElem?_cons_zero]
  repeat
    refine Grow.heads_step (fun K' hK => ⟨rfl, ?_⟩)
    apply Exists.intro
    apply And.intro
    · intro w' hw'
      obtain ⟨x', rfl⟩ := hw'
      go_simp
      first | done | rfl | (rw [if_neg (by omega)]; done) | (rw [if_neg (by omega)]; rfl)
    go_simp
    refine hK _ ?_
    clear hK K'
  refine Grow.heads_nil ?_
  intro w1 e1
  refine Grow.seq_step (fun K' hK => ⟨rfl, ?_⟩)
  go_simp
  try rw [if_neg (by omega)]
  simp only [Grow.upon]
  refine ⟨(Ext.refl _).alloc _, fun w2 e2 => hK _ _ ?_⟩
  clear hK K'
  refine Grow.seq_step (fun K' hK => ⟨rfl, ?_⟩)
  go_simp
  refine Grow.gives_upon (l01List_any _ 4 [x.trees, x.height, x.cover, x.gap] _ ((intAt_new _ _ _ _ (by intro k hk; simp at hk; rcases (show k = 0 ∨ k = 1 ∨ k = 2 ∨ k = 3 by omega) with rfl | rfl | rfl | rfl <;> rfl)).ext e2) HW.out (by simp)) fun w3 e3 => hK _ _ ?_
  clear hK K'
  have E3 : Ext w w3 := (e1.alloc _).trans (e2.trans e3)
  replace E3 := Lib.hid E3
  clear e1 e2 e3 HW
  refine Grow.seq_step (fun K' hK => ⟨rfl, ?_⟩)
  go_simp
  try rw [if_neg (by omega)]
  simp only [Grow.upon]
  refine ⟨Ext.refl _, fun w4 e4 => hK _ _ ?_⟩
  clear hK K'
  refine Grow.seq_step (fun K' hK => ⟨rfl, ?_⟩)
  go_simp
  try rw [if_neg (by omega)]
  simp only [Grow.upon]
  refine ⟨Ext.refl _, fun w5 e5 => hK _ _ ?_⟩
  clear hK K'
  refine Grow.seq_nil ?_
  have E5 := Lib.hid (E3.out.trans (e4.trans e5))
  clear e4 e5 E3
  go_wp2_with fail
  go_ret
  exact ⟨by rw [← hv.out]; rfl, E5.out⟩
set_option maxHeartbeats 1000000 in
theorem specStandText (x : Stand) (w : World) (hs0 : x.id.size ≤ 2000000) :
    Gives Tryd.prog 25 #[.agg #[.string x.id, .int .i64 x.trees, .int .i64 x.height, .int .i64 x.cover, .int .i64 x.gap]] w (.string (standS x)) := by
  unfold Gives
  cases h : standB x
  · have hv : Hid ((⟨#[]⟩ : ByteArray) = standS x) := by show _ = _; unfold standS; rw [h]; rfl
    go_enter Tryd.func25, Tryd.ntmps25
    go_wp2_with (go_at_call 66; refine (l10One_any _ _ x _ hs0 (by go_simp) (by go_simp) (by go_simp) (by go_simp) (by go_simp)).mono ?_; rintro e w' ⟨rfl, z, rfl⟩; rw [h])
    go_ret
    exact ⟨by rw [← hv.out]; rfl, (by repeat (first | exact Ext.refl _ | refine Ext.lift ?_ _ | refine Ext.alloc ?_ _))⟩
  · go_enter Tryd.func25, Tryd.ntmps25
    go_wp2_with (first | (go_at_call 66; refine (l10One_any _ _ x _ hs0 (by go_simp) (by go_simp) (by go_simp) (by go_simp) (by go_simp)).mono ?_; rintro e w' ⟨rfl, z, rfl⟩; rw [h]) | (go_at_call 67; refine (l10Text_any _ _ x _ h (by go_simp) (by go_simp) (by go_simp) (by go_simp) (by go_simp)).mono ?_; rintro e w' ⟨rfl, y, rfl⟩))
    go_ret
    exact ⟨rfl, (by repeat (first | exact Ext.refl _ | refine Ext.lift ?_ _ | refine Ext.alloc ?_ _))⟩
set_option maxRecDepth 100000 in
set_option maxHeartbeats 2000000 in
theorem implStandText (x : Stand) (w : World) (hs0 : x.id.size ≤ 2000000) (ht : Tab w) :
    Gives Tryd.prog 27 #[.agg #[.string x.id, .int .i64 x.trees, .int .i64 x.height, .int .i64 x.cover, .int .i64 x.gap]] w (.string (standS x)) := by
  unfold Gives
  have HT := Lib.hid ht
  clear ht
  cases h : standB x
  · have hv : Hid ((⟨#[]⟩ : ByteArray) = standS x) := by show _ = _; unfold standS; rw [h]; rfl
    go_enter Tryd.func27, Tryd.ntmps27
    go_wp2_with (go_at_call 68; refine (Stand_valid x _ hs0).mono ?_; rintro e w' ⟨rfl, y, rfl⟩; rw [h])
    go_ret
    exact ⟨by rw [← hv.out]; rfl, (by repeat (first | exact Ext.refl _ | refine Ext.lift ?_ _ | refine Ext.alloc ?_ _))⟩
  · have hv : Hid (withS x.id [x.trees, x.height, x.cover, x.gap] = standS x) := by show _ = _; unfold standS; rw [if_pos h]
    have hb := Lib.hid (standB_bd h)
    go_enter Tryd.func27, Tryd.ntmps27
    go_wp2_with fail
    refine (Stand_valid x _ hs0).mono ?_
    rintro e w' ⟨rfl, y, rfl⟩
    rw [h]
    go_wp2_with fail
    refine (withId_any _ _ 4 [x.trees, x.height, x.cover, x.gap] _ hs0 (intAt_new' _ _ _ _ (by intro k hk; simp at hk; rcases (show k = 0 ∨ k = 1 ∨ k = 2 ∨ k = 3 by omega) with rfl | rfl | rfl | rfl <;> rfl) (by simp only [lift_size, size_new]))
      (by intro k hk; simp at hk; rw [inB_iff]; have := hb.out; rcases (show k = 0 ∨ k = 1 ∨ k = 2 ∨ k = 3 by omega) with rfl | rfl | rfl | rfl <;> simp [nth] <;> omega) (by simp) (HT.out.ext (by repeat (first | exact Ext.refl _ | refine Ext.lift ?_ _ | refine Ext.alloc ?_ _)))).mono ?_
    rintro e w' ⟨rfl, z, rfl⟩
    go_wp2_with fail
    go_ret
    exact ⟨by rw [← hv.out]; rfl, (by repeat (first | exact Ext.refl _ | refine Ext.lift ?_ _ | refine Ext.alloc ?_ _))⟩
end Go.Proofs.YtpjojmkbccdofaaDoor

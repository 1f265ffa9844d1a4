/- A shot as text. What the program's and the reference's functions on one hand back. -/
import Derived.Test.YtpjojmkbccdofaaDoorWithId
import Derived.Test.YtpjojmkbccdofaaDoorGrow
namespace Go.Proofs.YtpjojmkbccdofaaDoor
open Go.RowKit
structure Shot where
  id : ByteArray
  frm : Int
  til : Int
  mins : Int
  gain : Int
instance : Inhabited Shot := ⟨⟨ByteArray.empty, 0, 0, 0, 0⟩⟩
def Shot.cell (x : Shot) : Nat → Value
  | 0 => .string x.id
  | 1 => .int .i64 x.frm
  | 2 => .int .i64 x.til
  | 3 => .int .i64 x.mins
  | _ => .int .i64 x.gain
def Shot.val (x : Shot) : Value := .agg #[.string x.id, .int .i64 x.frm, .int .i64 x.til, .int .i64 x.mins, .int .i64 x.gain]
/-- A slice of these begins at a, and its elements hold l. -/
abbrev ShotAt (w : World) (a : Option Addr) (l : List Shot) : Prop := RowsAt 5 Shot.cell w a l
theorem Shot.at {w : World} {b off : Nat} {l : List Shot} (h : ShotAt w (some ⟨b, off, none⟩) l) (k : Nat) (hk : k < l.length) :
    b < w.heap.size ∧ w.cell? ⟨b, off + k * 5, none⟩ = some (.string (nth l k).id) ∧ w.cell? ⟨b, off + k * 5 + 1, none⟩ = some (.int .i64 (nth l k).frm) ∧ w.cell? ⟨b, off + k * 5 + 2, none⟩ = some (.int .i64 (nth l k).til) ∧ w.cell? ⟨b, off + k * 5 + 3, none⟩ = some (.int .i64 (nth l k).mins) ∧ w.cell? ⟨b, off + k * 5 + 4, none⟩ = some (.int .i64 (nth l k).gain) :=
  let h' := RowsAt.at h k hk; ⟨h'.1, h'.2 0 (by decide), h'.2 1 (by decide), h'.2 2 (by decide), h'.2 3 (by decide), h'.2 4 (by decide)⟩
/-- The lengths of the strings that come in are those of strings that fit in memory. -/
def Shot.Sz (x : Shot) : Prop := x.id.size ≤ 9223372036854775807
def Shot.Small (x : Shot) : Prop := x.id.size ≤ 1048576
def Shot.Wf (x : Shot) : Prop := (-9223372036854775808 ≤ x.frm ∧ x.frm ≤ 9223372036854775807) ∧ (-9223372036854775808 ≤ x.til ∧ x.til ≤ 9223372036854775807) ∧ (-9223372036854775808 ≤ x.mins ∧ x.mins ≤ 9223372036854775807) ∧ (-9223372036854775808 ≤ x.gain ∧ x.gain ≤ 9223372036854775807)

def shotB (x : Shot) : Bool := nameB x.id && inB x.frm 0 1440 && inB x.til 0 1440 && inB x.mins 1 240 && decide (x.frm + x.mins ≤ x.til) && inB x.gain 0 1000
def shotS (x : Shot) : ByteArray := if shotB x = true then withS x.id [x.frm, x.til, x.mins, x.gain] else ⟨#[]⟩
theorem shotB_bd {x : Shot} (h : shotB x = true) : x.id.size ≤ 10 ∧ (0 ≤ x.frm ∧ x.frm ≤ 1440) ∧ (0 ≤ x.til ∧ x.til ≤ 1440) ∧ (1 ≤ x.mins ∧ x.mins ≤ 240) ∧ x.frm + x.mins ≤ x.til ∧ (0 ≤ x.gain ∧ x.gain ≤ 1000) := by
  unfold shotB at h; simp only [Bool.and_eq_true, inB_iff, decide_eq_true_eq] at h
  exact ⟨nameB_size h.1.1.1.1.1, h.1.1.1.1.2, h.1.1.1.2, h.1.1.2, h.1.2, h.2⟩
theorem shotB_impl (x : Shot) : shotB x = (nameB x.id && inB x.frm 0 1440 && inB x.til 0 1440 && inB x.mins 1 (min (x.til - x.frm) 240) && inB x.gain 0 1000) := by
  unfold shotB
  have h : inB x.mins 1 (min (x.til - x.frm) 240) = (inB x.mins 1 240 && decide (x.frm + x.mins ≤ x.til)) := by
    rw [Bool.eq_iff_iff]; simp only [Bool.and_eq_true, inB_iff, decide_eq_true_eq]; omega
  rw [h]; simp only [Bool.and_assoc]
set_option maxRecDepth 100000 in
set_option maxHeartbeats 2000000 in
theorem Shot_valid (x : Shot) (w : World) (hs0 : x.id.size ≤ 2000000) :
    Gives Tryd.prog 64 #[.agg #[.string x.id, .int .i64 x.frm, .int .i64 x.til, .int .i64 x.mins, .int .i64 x.gain]] w (.bool (shotB x)) := by
  have H : Hid (shotB x = (nameB x.id && inB x.frm 0 1440 && inB x.til 0 1440 && inB x.mins 1 (min (x.til - x.frm) 240) && inB x.gain 0 1000)) := shotB_impl x
  unfold Gives
  rcases and5 (nameB x.id) (inB x.frm 0 1440) (inB x.til 0 1440) (inB x.mins 1 (min (x.til - x.frm) 240)) with h0 | ⟨h0, h1⟩ | ⟨h0, h1, h2⟩ | ⟨h0, h1, h2, h3⟩ | ⟨h0, h1, h2, h3⟩
  all_goals
    try (have b1 := inB_iff.1 h1; have b2 := inB_iff.1 h2)
    go_enter Tryd.func64, Tryd.ntmps64
    go_wp2_with (first | (go_at_call 89; refine (within_any _ _ _ _).mono ?_; rintro e w' ⟨rfl, rfl⟩) | (go_at_call 106; refine (IsName_any _ _ (by omega)).mono ?_; rintro e w' ⟨rfl, rfl⟩))
    go_ret
    exact ⟨ret_bool (by rw [H.out]; simp [*]), (by repeat (first | exact Ext.refl _ | refine Ext.lift ?_ _ | refine Ext.alloc ?_ _))⟩
set_option maxRecDepth 100000 in
set_option maxHeartbeats 2000000 in
theorem l22One_any (b o : Nat) (x : Shot) (w : World) (hs0 : x.id.size ≤ 2000000) (c0 : w.cell? ⟨b, o, none⟩ = some (.string x.id)) (c1 : w.cell? ⟨b, o + 1, none⟩ = some (.int .i64 x.frm)) (c2 : w.cell? ⟨b, o + 2, none⟩ = some (.int .i64 x.til)) (c3 : w.cell? ⟨b, o + 3, none⟩ = some (.int .i64 x.mins)) (c4 : w.cell? ⟨b, o + 4, none⟩ = some (.int .i64 x.gain)) :
    Gives Tryd.prog 62 #[.pointer (some ⟨b, o, none⟩)] w (.bool (shotB x)) := by
  have H : Hid (shotB x = (nameB x.id && inB x.frm 0 1440 && inB x.til 0 1440 && inB x.mins 1 240 && decide (x.frm + x.mins ≤ x.til) && inB x.gain 0 1000)) := rfl
  have hbl := block_lt c0
  unfold Gives
  rcases and6 (nameB x.id) (inB x.frm 0 1440) (inB x.til 0 1440) (inB x.mins 1 240) (decide (x.frm + x.mins ≤ x.til)) with h0 | ⟨h0, h1⟩ | ⟨h0, h1, h2⟩ | ⟨h0, h1, h2, h3⟩ | ⟨h0, h1, h2, h3, h4⟩ | ⟨h0, h1, h2, h3, h4⟩
  all_goals
    try (have b1 := inB_iff.1 h1; have b2 := inB_iff.1 h2; have b3 := inB_iff.1 h3)
    go_enter Tryd.func62, Tryd.ntmps62
    go_wp2_with fail
    refine region_quiet (by kernel_rfl) (by kernel_rfl) ?_
    repeat (any_goals (first | go_big_quiet_step ((first | (exact Gives.quiet (Gives.same (l00In_any _ _ _ _))) | (exact Gives.quiet (Gives.same (l01Name_any _ _ (by omega)))))) | quiet_step ((first | (exact Gives.quiet (Gives.same (l00In_any _ _ _ _))) | (exact Gives.quiet (Gives.same (l01Name_any _ _ (by omega))))))))
    refine wpQuiet_nil ?_
    intro _ hw'
    obtain ⟨y, hw''⟩ := hw'
    subst hw''
    go_wp2
    go_ret
    exact ⟨ret_bool (by rw [H.out]; simp [*]), (by repeat (first | exact Ext.refl _ | refine Ext.lift ?_ _ | refine Ext.alloc ?_ _))⟩
set_option maxRecDepth 100000 in
set_option maxHeartbeats 2000000 in
theorem l22Text_any (b o : Nat) (x : Shot) (w : World) (hx : shotB x = true) (c0 : w.cell? ⟨b, o, none⟩ = some (.string x.id)) (c1 : w.cell? ⟨b, o + 1, none⟩ = some (.int .i64 x.frm)) (c2 : w.cell? ⟨b, o + 2, none⟩ = some (.int .i64 x.til)) (c3 : w.cell? ⟨b, o + 3, none⟩ = some (.int .i64 x.mins)) (c4 : w.cell? ⟨b, o + 4, none⟩ = some (.int .i64 x.gain)) :
    Gives Tryd.prog 63 #[.pointer (some ⟨b, o, none⟩)] w (.string (shotS x)) := by
  unfold Gives
  have hv : Hid (x.id ++ ⟨#[32]⟩ ++ listS [x.frm, x.til, x.mins, x.gain] = shotS x) := by show _ = _; unfold shotS; rw [if_pos hx]; rfl
  have hb := Lib.hid (shotB_bd hx)
  have hw : ∀ k, k < [x.frm, x.til, x.mins, x.gain].length → -9223372036854775808 ≤ nth [x.frm, x.til, x.mins, x.gain] k ∧ nth [x.frm, x.til, x.mins, x.gain] k ≤ 9223372036854775807 := by
    intro k hk; simp at hk; have := hb.out; rcases (show k = 0 ∨ k = 1 ∨ k = 2 ∨ k = 3 by omega) with rfl | rfl | rfl | rfl <;> simp [nth] <;> omega
  have hl : (listS [x.frm, x.til, x.mins, x.gain]).size ≤ 89 := by have := listS_size hw; simpa using this
  have h1 : (x.id ++ ⟨#[32]⟩).size ≤ 11 := by rw [ByteArray.size_append]; have : (⟨#[32]⟩ : ByteArray).size = 1 := rfl; have := hb.out; omega
  have h2 : (x.id ++ ⟨#[32]⟩ ++ listS [x.frm, x.til, x.mins, x.gain]).size ≤ 100 := by rw [ByteArray.size_append]; omega
  have hid : x.id.size ≤ 10 := by have := hb.out; omega
  have HW := Lib.hid hw
  have hbl := block_lt c0
  clear hx hw
  go_enter Tryd.func63, Tryd.ntmps63
  go_wp2_with fail
  refine Grow.region [0, 1, 2, 3, 4, 5, 6, 7, 8, 9, 10, 11, 12, 13, 14, 15, 16, 17, 18, 19, 20] [21, 22, 23, 24] (by kernel_rfl) (by kernel_rfl) ?_
  simp only [Grow.pick, List.getElem?_cons_succ, List.getElem?_cons_zero]
  repeat
    refine Grow.heads_step (fun K' hK => ⟨rfl, ?_⟩)
    apply Exists.intro
    apply And.intro
    · intro w' hw'
      obtain ⟨x', rfl⟩ := hw'
      go_simp
      first | done | rfl | (rw [if_neg (by omega)]; done) | (rw [if_neg (by omega)]; rfl)
    go_simp
    refine hK _ ?_
    clear hK K'
  refine Grow.heads_nil ?_
  intro w1 e1
  refine Grow.seq_step (fun K' hK => ⟨rfl, ?_⟩)
  go_simp
  try rw [if_neg (by omega)]
  simp only [Grow.upon]
  refine ⟨(Ext.refl _).alloc _, fun w2 e2 => hK _ _ ?_⟩
  clear hK K'
  refine Grow.seq_step (fun K' hK => ⟨rfl, ?_⟩)
  go_simp
  refine Grow.gives_upon (l01List_any _ 4 [x.frm, x.til, x.mins, x.gain] _ ((intAt_new _ _ _ _ (by intro k hk; simp at hk; rcases (show k = 0 ∨ k = 1 ∨ k = 2 ∨ k = 3 by omega) with rfl | rfl | rfl | rfl <;> rfl)).ext e2) HW.out (by simp)) fun w3 e3 => hK _ _ ?_
  clear hK K'
  have E3 : Ext w w3 := (e1.alloc _).trans (e2.trans e3)
  replace E3 := Lib.hid E3
  clear e1 e2 e3 HW
  refine Grow.seq_step (fun K' hK => ⟨rfl, ?_⟩)
  go_simp
  try rw [if_neg (by omega)]
  simp only [Grow.upon]
  refine ⟨Ext.refl _, fun w4 e4 => hK _ _ ?_⟩
  clear hK K'
  refine Grow.seq_step (fun K' hK => ⟨rfl, ?_⟩)
  go_simp
  try rw [if_neg (by omega)]
  simp only [Grow.upon]
  refine ⟨Ext.refl _, fun w5 e5 => hK _ _ ?_⟩
  clear hK K'
  refine Grow.seq_nil ?_
  have E5 := Lib.hid (E3.out.trans (e4.trans e5))
  clear e4 e5 E3
  go_wp2_with fail
  go_ret
  exact ⟨by rw [← hv.out]; rfl, E5.out⟩
set_option maxHeartbeats 1000000 in
theorem specShotText (x : Shot) (w : World) (hs0 : x.id.size ≤ 2000000) :
    Gives Tryd.prog 21 #[.agg #[.string x.id, .int .i64 x.frm, .int .i64 x.til, .int .i64 x.mins, .int .i64 x.gain]] w (.string (shotS x)) := by
  unfold Gives
  cases h : shotB x
  · have hv : Hid ((⟨#[]⟩ : ByteArray) = shotS x) := by show _ = _; unfold shotS; rw [h]; rfl
    go_enter Tryd.func21, Tryd.ntmps21
    go_wp2_with (go_at_call 62; refine (l22One_any _ _ x _ hs0 (by go_simp) (by go_simp) (by go_simp) (by go_simp) (by go_simp)).mono ?_; rintro e w' ⟨rfl, z, rfl⟩; rw [h])
    go_ret
    exact ⟨by rw [← hv.out]; rfl, (by repeat (first | exact Ext.refl _ | refine Ext.lift ?_ _ | refine Ext.alloc ?_ _))⟩
  · go_enter Tryd.func21, Tryd.ntmps21
    go_wp2_with (first | (go_at_call 62; refine (l22One_any _ _ x _ hs0 (by go_simp) (by go_simp) (by go_simp) (by go_simp) (by go_simp)).mono ?_; rintro e w' ⟨rfl, z, rfl⟩; rw [h]) | (go_at_call 63; refine (l22Text_any _ _ x _ h (by go_simp) (by go_simp) (by go_simp) (by go_simp) (by go_simp)).mono ?_; rintro e w' ⟨rfl, y, rfl⟩))
    go_ret
    exact ⟨rfl, (by repeat (first | exact Ext.refl _ | refine Ext.lift ?_ _ | refine Ext.alloc ?_ _))⟩
set_option maxRecDepth 100000 in
set_option maxHeartbeats 2000000 in
theorem implShotText (x : Shot) (w : World) (hs0 : x.id.size ≤ 2000000) (ht : Tab w) :
    Gives Tryd.prog 23 #[.agg #[.string x.id, .int .i64 x.frm, .int .i64 x.til, .int .i64 x.mins, .int .i64 x.gain]] w (.string (shotS x)) := by
  unfold Gives
  have HT := Lib.hid ht
  clear ht
  cases h : shotB x
  · have hv : Hid ((⟨#[]⟩ : ByteArray) = shotS x) := by show _ = _; unfold shotS; rw [h]; rfl
    go_enter Tryd.func23, Tryd.ntmps23
    go_wp2_with (go_at_call 64; refine (Shot_valid x _ hs0).mono ?_; rintro e w' ⟨rfl, y, rfl⟩; rw [h])
    go_ret
    exact ⟨by rw [← hv.out]; rfl, (by repeat (first | exact Ext.refl _ | refine Ext.lift ?_ _ | refine Ext.alloc ?_ _))⟩
  · have hv : Hid (withS x.id [x.frm, x.til, x.mins, x.gain] = shotS x) := by show _ = _; unfold shotS; rw [if_pos h]
    have hb := Lib.hid (shotB_bd h)
    go_enter Tryd.func23, Tryd.ntmps23
    go_wp2_with fail
    refine (Shot_valid x _ hs0).mono ?_
    rintro e w' ⟨rfl, y, rfl⟩
    rw [h]
    go_wp2_with fail
    refine (withId_any _ _ 4 [x.frm, x.til, x.mins, x.gain] _ hs0 (intAt_new' _ _ _ _ (by intro k hk; simp at hk; rcases (show k = 0 ∨ k = 1 ∨ k = 2 ∨ k = 3 by omega) with rfl | rfl | rfl | rfl <;> rfl) (by simp only [lift_size, size_new]))
      (by intro k hk; simp at hk; rw [inB_iff]; have := hb.out; rcases (show k = 0 ∨ k = 1 ∨ k = 2 ∨ k = 3 by omega) with rfl | rfl | rfl | rfl <;> simp [nth] <;> omega) (by simp) (HT.out.ext (by repeat (first | exact Ext.refl _ | refine Ext.lift ?_ _ | refine Ext.alloc ?_ _)))).mono ?_
    rintro e w' ⟨rfl, z, rfl⟩
    go_wp2_with fail
    go_ret
    exact ⟨by rw [← hv.out]; rfl, (by repeat (first | exact Ext.refl _ | refine Ext.lift ?_ _ | refine Ext.alloc ?_ _))⟩
end Go.Proofs.YtpjojmkbccdofaaDoor

/- A verified as text. What the program's and the reference's functions on one hand back. -/
import Derived.Test.YtpjojmkbccdofaaDoorVerified
import Derived.Test.YtpjojmkbccdofaaDoorWithId
import Derived.Test.YtpjojmkbccdofaaDoorDateText
namespace Go.Proofs.YtpjojmkbccdofaaDoor
open Go.RowKit

noncomputable def verifiedS (x : Verified) : ByteArray := if verifiedB x = true then withS (dateS x.day) [x.told, x.seen] else ⟨#[]⟩
set_option maxRecDepth 100000 in
set_option maxHeartbeats 2000000 in
theorem l20Text_any (b o : Nat) (x : Verified) (w : World) (hx : verifiedB x = true) (c0 : w.cell? ⟨b, o, none⟩ = some (.int .i64 x.day)) (c1 : w.cell? ⟨b, o + 1, none⟩ = some (.int .i64 x.told)) (c2 : w.cell? ⟨b, o + 2, none⟩ = some (.int .i64 x.seen)) :
    Gives Tryd.prog 94 #[.pointer (some ⟨b, o, none⟩)] w (.string (verifiedS x)) := by
  unfold Gives
  have hv : Hid (dateS x.day ++ ⟨#[32]⟩ ++ listS [x.told, x.seen] = verifiedS x) := by show _ = _; unfold verifiedS; rw [if_pos hx]; rfl
  have hb := Lib.hid (verifiedB_bd hx)
  have hw : ∀ k, k < [x.told, x.seen].length → -9223372036854775808 ≤ nth [x.told, x.seen] k ∧ nth [x.told, x.seen] k ≤ 9223372036854775807 := by
    intro k hk; simp at hk; have := hb.out; rcases (show k = 0 ∨ k = 1 by omega) with rfl | rfl <;> simp [nth] <;> omega
  have hl : (listS [x.told, x.seen]).size ≤ 45 := by have := listS_size hw; simpa using this
  have hid := dateS_size (day := x.day) (by have := hb.out; omega) (by have := hb.out; omega)
  have h1 : (dateS x.day ++ ⟨#[32]⟩).size ≤ 28 := by rw [ByteArray.size_append]; have : (⟨#[32]⟩ : ByteArray).size = 1 := rfl; omega
  have h2 : (dateS x.day ++ ⟨#[32]⟩ ++ listS [x.told, x.seen]).size ≤ 74 := by rw [ByteArray.size_append]; omega
  have HW := Lib.hid hw
  have hbl := block_lt c0
  clear hx hw
  go_enter Tryd.func94, Tryd.ntmps94
  go_wp2_with fail
  refine Grow.region_tail 17 [0, 1, 2, 3, 4, 5, 6, 7, 8, 9, 10, 11, 12, 13] [(false, 14), (false, 15), (false, 16)] (by kernel_rfl) (by kernel_rfl) ?_
  simp only [Grow.pick, Grow.pickB, List.getElem?_cons_succ, List.getElem?_cons_zero, List.drop_succ_cons, List.drop_zero]
  repeat
    refine Grow.heads_step (fun K' hK => ⟨rfl, ?_⟩)
    apply Exists.intro
    apply And.intro
    · intro w' hw'
      obtain ⟨x', rfl⟩ := hw'
      go_simp
      first | done | rfl | (rw [if_neg (by omega)]; done) | (rw [if_neg (by omega)]; rfl)
    go_simp
    refine hK _ ?_
    clear hK K'
  refine Grow.heads_call _ _ _ (fun K' hK => ⟨rfl, ?_, (fun w' h' => l02Text_any x.day w' (by have := hb.out; omega) (by have := hb.out; omega)), ?_⟩)
  · intro w' hw'
    obtain ⟨x', rfl⟩ := hw'
    go_simp
    first | done | rfl
  go_simp
  refine hK _ ?_
  clear hK K'
  repeat
    refine Grow.heads_step (fun K' hK => ⟨rfl, ?_⟩)
    apply Exists.intro
    apply And.intro
    · intro w' hw'
      obtain ⟨x', rfl⟩ := hw'
      go_simp
      first | done | rfl | (rw [if_neg (by omega)]; done) | (rw [if_neg (by omega)]; rfl)
    go_simp
    refine hK _ ?_
    clear hK K'
  refine Grow.heads_nil ?_
  intro w1 e1
  refine Grow.seq_step (fun K' hK => ⟨rfl, ?_⟩)
  go_simp
  try rw [if_neg (by omega)]
  simp only [Grow.upon]
  refine ⟨(Ext.refl _).alloc _, fun w2 e2 => hK _ _ ?_⟩
  clear hK K'
  refine Grow.seq_step (fun K' hK => ⟨rfl, ?_⟩)
  go_simp
  refine Grow.gives_upon (l01List_any _ 2 [x.told, x.seen] _ ((intAt_new _ _ _ _ (by intro k hk; simp at hk; rcases (show k = 0 ∨ k = 1 by omega) with rfl | rfl <;> rfl)).ext e2) HW.out (by simp)) fun w3 e3 => hK _ _ ?_
  clear hK K'
  have E3 : Ext w w3 := (e1.alloc _).trans (e2.trans e3)
  replace E3 := Lib.hid E3
  clear e1 e2 e3 HW
  refine Grow.seq_step (fun K' hK => ⟨rfl, ?_⟩)
  go_simp
  try rw [if_neg (by omega)]
  simp only [Grow.upon]
  refine ⟨Ext.refl _, fun w4 e4 => hK _ _ ?_⟩
  clear hK K'
  have E5 := Lib.hid (E3.out.trans e4)
  clear e4 E3
  refine Grow.seq_nil ?_
  go_wp2_with fail
  go_ret
  exact ⟨by rw [← hv.out]; rfl, E5.out⟩
set_option maxHeartbeats 1000000 in
theorem specVerifiedText (x : Verified) (w : World)  :
    Gives Tryd.prog 48 #[.agg #[.int .i64 x.day, .int .i64 x.told, .int .i64 x.seen]] w (.string (verifiedS x)) := by
  unfold Gives
  cases h : verifiedB x
  · have hv : Hid ((⟨#[]⟩ : ByteArray) = verifiedS x) := by show _ = _; unfold verifiedS; rw [h]; rfl
    go_enter Tryd.func48, Tryd.ntmps48
    go_wp2_with (go_at_call 93; refine (l20One_any _ _ x _  (by go_simp) (by go_simp) (by go_simp)).mono ?_; rintro e w' ⟨rfl, z, rfl⟩; rw [h])
    go_ret
    exact ⟨by rw [← hv.out]; rfl, (by repeat (first | exact Ext.refl _ | refine Ext.lift ?_ _ | refine Ext.alloc ?_ _))⟩
  · go_enter Tryd.func48, Tryd.ntmps48
    go_wp2_with (first | (go_at_call 93; refine (l20One_any _ _ x _  (by go_simp) (by go_simp) (by go_simp)).mono ?_; rintro e w' ⟨rfl, z, rfl⟩; rw [h]) | (go_at_call 94; refine (l20Text_any _ _ x _ h (by go_simp) (by go_simp) (by go_simp)).mono ?_; rintro e w' ⟨rfl, y, rfl⟩))
    go_ret
    exact ⟨rfl, (by repeat (first | exact Ext.refl _ | refine Ext.lift ?_ _ | refine Ext.alloc ?_ _))⟩
set_option maxRecDepth 100000 in
set_option maxHeartbeats 2000000 in
theorem implVerifiedText (x : Verified) (w : World)  (ht : Tab w) :
    Gives Tryd.prog 50 #[.agg #[.int .i64 x.day, .int .i64 x.told, .int .i64 x.seen]] w (.string (verifiedS x)) := by
  unfold Gives
  have HT := Lib.hid ht
  clear ht
  cases h : verifiedB x
  · have hv : Hid ((⟨#[]⟩ : ByteArray) = verifiedS x) := by show _ = _; unfold verifiedS; rw [h]; rfl
    go_enter Tryd.func50, Tryd.ntmps50
    go_wp2_with (go_at_call 95; refine (Verified_valid x _ ).mono ?_; rintro e w' ⟨rfl, y, rfl⟩; rw [h])
    go_ret
    exact ⟨by rw [← hv.out]; rfl, (by repeat (first | exact Ext.refl _ | refine Ext.lift ?_ _ | refine Ext.alloc ?_ _))⟩
  · have hv : Hid (withS (dateS x.day) [x.told, x.seen] = verifiedS x) := by show _ = _; unfold verifiedS; rw [if_pos h]
    have hb := Lib.hid (verifiedB_bd h)
    have hid : Hid ((dateS x.day).size ≤ 2000000) := by show _ ≤ _; have := dateS_size (day := x.day) (by have := hb.out; omega) (by have := hb.out; omega); omega
    go_enter Tryd.func50, Tryd.ntmps50
    go_wp2_with fail
    refine (Verified_valid x _).mono ?_
    rintro e w' ⟨rfl, y, rfl⟩
    rw [h]
    go_wp2_with fail
    refine Grow.region_tail 9 [0, 1, 2, 3, 4, 5, 6] [(false, 7), (false, 8)] (by kernel_rfl) (by kernel_rfl) ?_
    simp only [Grow.pick, Grow.pickB, List.getElem?_cons_succ, List.getElem?_cons_zero, List.drop_succ_cons, List.drop_zero]
    repeat
      refine Grow.heads_step (fun K' hK => ⟨rfl, ?_⟩)
      apply Exists.intro
      apply And.intro
      · intro w' hw'
        obtain ⟨x', rfl⟩ := hw'
        go_simp
        first | done | rfl | (rw [if_neg (by omega)]; done) | (rw [if_neg (by omega)]; rfl)
      go_simp
      refine hK _ ?_
      clear hK K'
    refine Grow.heads_call _ _ _ (fun K' hK => ⟨rfl, ?_, (fun w' h' => DateText_any x.day w' (by have := hb.out; omega) (by have := hb.out; omega) (HT.out.ext (Ext.trans (((Ext.refl w).alloc _).lift y) h'))), ?_⟩)
    · intro w' hw'
      obtain ⟨x', rfl⟩ := hw'
      go_simp
      first | done | rfl
    go_simp
    refine hK _ ?_
    clear hK K'
    repeat
      refine Grow.heads_step (fun K' hK => ⟨rfl, ?_⟩)
      apply Exists.intro
      apply And.intro
      · intro w' hw'
        obtain ⟨x', rfl⟩ := hw'
        go_simp
        first | done | rfl | (rw [if_neg (by omega)]; done) | (rw [if_neg (by omega)]; rfl)
      go_simp
      refine hK _ ?_
      clear hK K'
    refine Grow.heads_nil ?_
    intro w1 e1
    refine Grow.seq_step (fun K' hK => ⟨rfl, ?_⟩)
    go_simp
    try rw [if_neg (by omega)]
    simp only [Grow.upon]
    refine ⟨(Ext.refl _).alloc _, fun w2 e2 => hK _ _ ?_⟩
    clear hK K'
    have T2 : Ext w w2 := ((((Ext.refl w).alloc _).lift y).trans e1).alloc _ |>.trans e2
    refine Grow.seq_step (fun K' hK => ⟨rfl, ?_⟩)
    go_simp
    refine Grow.gives_upon (withId_any _ _ 2 [x.told, x.seen] _ hid.out ((intAt_new _ _ _ _ (by intro k hk; simp at hk; rcases (show k = 0 ∨ k = 1 by omega) with rfl | rfl <;> rfl)).ext e2) (by intro k hk; simp at hk; rw [inB_iff]; have := hb.out; rcases (show k = 0 ∨ k = 1 by omega) with rfl | rfl <;> simp [nth] <;> omega) (by simp) (HT.out.ext T2)) fun w3 e3 => hK _ _ ?_
    clear hK K'
    have T3 := Lib.hid (T2.trans e3)
    refine Grow.seq_nil ?_
    clear e1 e2 e3 T2
    go_wp2_with fail
    go_ret
    exact ⟨by rw [← hv.out]; rfl, T3.out⟩
end Go.Proofs.YtpjojmkbccdofaaDoor

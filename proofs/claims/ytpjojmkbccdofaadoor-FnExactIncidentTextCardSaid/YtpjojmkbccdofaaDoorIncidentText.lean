/- A incident as text. What the program's and the reference's functions on one hand back. -/
import Derived.Test.YtpjojmkbccdofaaDoorIncident
import Derived.Test.YtpjojmkbccdofaaDoorWithId
import Derived.Test.YtpjojmkbccdofaaDoorDateText
namespace Go.Proofs.YtpjojmkbccdofaaDoor
open Go.RowKit

noncomputable def incidentS (x : Incident) : ByteArray := if incidentB x = true then dateS x.day ++ ⟨#[32]⟩ ++ x.place ++ ⟨#[32]⟩ ++ x.cause ++ ⟨#[32]⟩ ++ listS [x.level, x.caught, x.buried] else ⟨#[]⟩
set_option maxRecDepth 100000 in
set_option maxHeartbeats 2000000 in
theorem l28Text_any (b o : Nat) (x : Incident) (w : World) (hx : incidentB x = true) (c0 : w.cell? ⟨b, o, none⟩ = some (.int .i64 x.day)) (c1 : w.cell? ⟨b, o + 1, none⟩ = some (.string x.place)) (c2 : w.cell? ⟨b, o + 2, none⟩ = some (.string x.cause)) (c3 : w.cell? ⟨b, o + 3, none⟩ = some (.int .i64 x.level)) (c4 : w.cell? ⟨b, o + 4, none⟩ = some (.int .i64 x.caught)) (c5 : w.cell? ⟨b, o + 5, none⟩ = some (.int .i64 x.buried)) :
    Gives Tryd.prog 98 #[.pointer (some ⟨b, o, none⟩)] w (.string (incidentS x)) := by
  unfold Gives
  have hv : Hid (dateS x.day ++ ⟨#[32]⟩ ++ x.place ++ ⟨#[32]⟩ ++ x.cause ++ ⟨#[32]⟩ ++ listS [x.level, x.caught, x.buried] = incidentS x) := by show _ = _; unfold incidentS; rw [if_pos hx]
  have hb := Lib.hid (incidentB_bd hx)
  have hw : ∀ k, k < [x.level, x.caught, x.buried].length → -9223372036854775808 ≤ nth [x.level, x.caught, x.buried] k ∧ nth [x.level, x.caught, x.buried] k ≤ 9223372036854775807 := by
    intro k hk; simp at hk; have := hb.out; rcases (show k = 0 ∨ k = 1 ∨ k = 2 by omega) with rfl | rfl | rfl <;> simp [nth] <;> omega
  have hl : (listS [x.level, x.caught, x.buried]).size ≤ 67 := by have := listS_size hw; simpa using this
  have h32 : (⟨#[32]⟩ : ByteArray).size = 1 := rfl
  have hid := dateS_size (day := x.day) (by have := hb.out; omega) (by have := hb.out; omega)
  have z1 : (dateS x.day ++ ⟨#[32]⟩).size ≤ 28 := by rw [ByteArray.size_append]; omega
  have z2 : (dateS x.day ++ ⟨#[32]⟩ ++ x.place).size ≤ 38 := by rw [ByteArray.size_append]; have := hb.out; omega
  have z3 : (dateS x.day ++ ⟨#[32]⟩ ++ x.place ++ ⟨#[32]⟩).size ≤ 39 := by rw [ByteArray.size_append]; omega
  have z4 : (dateS x.day ++ ⟨#[32]⟩ ++ x.place ++ ⟨#[32]⟩ ++ x.cause).size ≤ 49 := by rw [ByteArray.size_append]; have := hb.out; omega
  have z5 : (dateS x.day ++ ⟨#[32]⟩ ++ x.place ++ ⟨#[32]⟩ ++ x.cause ++ ⟨#[32]⟩).size ≤ 50 := by rw [ByteArray.size_append]; omega
  have z6 : (dateS x.day ++ ⟨#[32]⟩ ++ x.place ++ ⟨#[32]⟩ ++ x.cause ++ ⟨#[32]⟩ ++ listS [x.level, x.caught, x.buried]).size ≤ 120 := by rw [ByteArray.size_append]; omega
  have z7 : x.place.size ≤ 10 := by have := hb.out; omega
  have z8 : x.cause.size ≤ 10 := by have := hb.out; omega
  have HW := Lib.hid hw
  have hbl := block_lt c0
  clear hx hw
  go_enter Tryd.func98, Tryd.ntmps98
  go_wp2_with fail
  refine Grow.region_tail 33 [0, 1, 2, 3, 4, 5, 6, 7, 8, 9, 10, 11, 12, 13, 14, 15, 16, 17, 18, 19, 20, 21, 22, 23, 24, 25, 26, 27, 28, 29] [(false, 30), (false, 31), (false, 32)] (by kernel_rfl) (by kernel_rfl) ?_
  simp only [Grow.pick, Grow.pickB, List.getElem?_cons_succ, List.getElem?_cons_zero, List.drop_succ_cons, List.drop_zero]
  repeat
    refine Grow.heads_step (fun K' hK => ⟨rfl, ?_⟩)
    apply Exists.intro
    apply And.intro
    · intro w' hw'
      obtain ⟨x', rfl⟩ := hw'
      go_simp
      first | done | rfl | (rw [if_neg (by omega)]; done) | (rw [if_neg (by omega)]; rfl)
    go_simp
    refine hK _ ?_
    clear hK K'
  refine Grow.heads_call _ _ _ (fun K' hK => ⟨rfl, ?_, (fun w' h' => l02Text_any x.day w' (by have := hb.out; omega) (by have := hb.out; omega)), ?_⟩)
  · intro w' hw'
    obtain ⟨x', rfl⟩ := hw'
    go_simp
    first | done | rfl
  go_simp
  refine hK _ ?_
  clear hK K'
  repeat
    refine Grow.heads_step (fun K' hK => ⟨rfl, ?_⟩)
    apply Exists.intro
    apply And.intro
    · intro w' hw'
      obtain ⟨x', rfl⟩ := hw'
      go_simp
      first | done | rfl | (rw [if_neg (by omega)]; done) | (rw [if_neg (by omega)]; rfl)
    go_simp
    refine hK _ ?_
    clear hK K'
  refine Grow.heads_nil ?_
  intro w1 e1
  refine Grow.seq_step (fun K' hK => ⟨rfl, ?_⟩)
  go_simp
  try rw [if_neg (by omega)]
  simp only [Grow.upon]
  refine ⟨(Ext.refl _).alloc _, fun w2 e2 => hK _ _ ?_⟩
  clear hK K'
  refine Grow.seq_step (fun K' hK => ⟨rfl, ?_⟩)
  go_simp
  refine Grow.gives_upon (l01List_any _ 3 [x.level, x.caught, x.buried] _ ((intAt_new _ _ _ _ (by intro k hk; simp at hk; rcases (show k = 0 ∨ k = 1 ∨ k = 2 by omega) with rfl | rfl | rfl <;> rfl)).ext e2) HW.out (by simp)) fun w3 e3 => hK _ _ ?_
  clear hK K'
  have E3 : Ext w w3 := (e1.alloc _).trans (e2.trans e3)
  replace E3 := Lib.hid E3
  clear e1 e2 e3 HW
  refine Grow.seq_step (fun K' hK => ⟨rfl, ?_⟩)
  go_simp
  try rw [if_neg (by omega)]
  simp only [Grow.upon]
  refine ⟨Ext.refl _, fun w4 e4 => hK _ _ ?_⟩
  clear hK K'
  have E5 := Lib.hid (E3.out.trans e4)
  clear e4 E3
  refine Grow.seq_nil ?_
  go_wp2_with fail
  go_ret
  exact ⟨by rw [← hv.out]; rfl, E5.out⟩
set_option maxHeartbeats 1000000 in
theorem specIncidentText (x : Incident) (w : World) (hs0 : x.place.size ≤ 2000000) (hs1 : x.cause.size ≤ 2000000) :
    Gives Tryd.prog 52 #[.agg #[.int .i64 x.day, .string x.place, .string x.cause, .int .i64 x.level, .int .i64 x.caught, .int .i64 x.buried]] w (.string (incidentS x)) := by
  unfold Gives
  cases h : incidentB x
  · have hv : Hid ((⟨#[]⟩ : ByteArray) = incidentS x) := by show _ = _; unfold incidentS; rw [h]; rfl
    go_enter Tryd.func52, Tryd.ntmps52
    go_wp2_with (go_at_call 97; refine (l28One_any _ _ x _ hs0 hs1 (by go_simp) (by go_simp) (by go_simp) (by go_simp) (by go_simp) (by go_simp)).mono ?_; rintro e w' ⟨rfl, z, rfl⟩; rw [h])
    go_ret
    exact ⟨by rw [← hv.out]; rfl, (by repeat (first | exact Ext.refl _ | refine Ext.lift ?_ _ | refine Ext.alloc ?_ _))⟩
  · go_enter Tryd.func52, Tryd.ntmps52
    go_wp2_with (first | (go_at_call 97; refine (l28One_any _ _ x _ hs0 hs1 (by go_simp) (by go_simp) (by go_simp) (by go_simp) (by go_simp) (by go_simp)).mono ?_; rintro e w' ⟨rfl, z, rfl⟩; rw [h]) | (go_at_call 98; refine (l28Text_any _ _ x _ h (by go_simp) (by go_simp) (by go_simp) (by go_simp) (by go_simp) (by go_simp)).mono ?_; rintro e w' ⟨rfl, y, rfl⟩))
    go_ret
    exact ⟨rfl, (by repeat (first | exact Ext.refl _ | refine Ext.lift ?_ _ | refine Ext.alloc ?_ _))⟩
set_option maxRecDepth 100000 in
set_option maxHeartbeats 2000000 in
theorem implIncidentText (x : Incident) (w : World) (hs0 : x.place.size ≤ 2000000) (hs1 : x.cause.size ≤ 2000000) (ht : Tab w) :
    Gives Tryd.prog 54 #[.agg #[.int .i64 x.day, .string x.place, .string x.cause, .int .i64 x.level, .int .i64 x.caught, .int .i64 x.buried]] w (.string (incidentS x)) := by
  unfold Gives
  have HT := Lib.hid ht
  clear ht
  cases h : incidentB x
  · have hv : Hid ((⟨#[]⟩ : ByteArray) = incidentS x) := by show _ = _; unfold incidentS; rw [h]; rfl
    go_enter Tryd.func54, Tryd.ntmps54
    go_wp2_with (go_at_call 99; refine (Incident_valid x _ hs0 hs1).mono ?_; rintro e w' ⟨rfl, y, rfl⟩; rw [h])
    go_ret
    exact ⟨by rw [← hv.out]; rfl, (by repeat (first | exact Ext.refl _ | refine Ext.lift ?_ _ | refine Ext.alloc ?_ _))⟩
  · have hv : Hid (dateS x.day ++ ⟨#[32]⟩ ++ x.place ++ ⟨#[32]⟩ ++ x.cause ++ ⟨#[32]⟩ ++ listS [x.level, x.caught, x.buried] = incidentS x) := by show _ = _; unfold incidentS; rw [if_pos h]
    have hb := Lib.hid (incidentB_bd h)
    have hw : ∀ k, k < [x.level, x.caught, x.buried].length → -9223372036854775808 ≤ nth [x.level, x.caught, x.buried] k ∧ nth [x.level, x.caught, x.buried] k ≤ 9223372036854775807 := by
      intro k hk; simp at hk; have := hb.out; rcases (show k = 0 ∨ k = 1 ∨ k = 2 by omega) with rfl | rfl | rfl <;> simp [nth] <;> omega
    have hl : (listS [x.level, x.caught, x.buried]).size ≤ 67 := by have := listS_size hw; simpa using this
    clear hw
    have h32 : (⟨#[32]⟩ : ByteArray).size = 1 := rfl
    have hid := dateS_size (day := x.day) (by have := hb.out; omega) (by have := hb.out; omega)
    have z1 : (dateS x.day ++ ⟨#[32]⟩).size ≤ 28 := by rw [ByteArray.size_append]; omega
    have z2 : (dateS x.day ++ ⟨#[32]⟩ ++ x.place).size ≤ 38 := by rw [ByteArray.size_append]; have := hb.out; omega
    have z3 : (dateS x.day ++ ⟨#[32]⟩ ++ x.place ++ ⟨#[32]⟩).size ≤ 39 := by rw [ByteArray.size_append]; omega
    have z4 : (dateS x.day ++ ⟨#[32]⟩ ++ x.place ++ ⟨#[32]⟩ ++ x.cause).size ≤ 49 := by rw [ByteArray.size_append]; have := hb.out; omega
    have z5 : (dateS x.day ++ ⟨#[32]⟩ ++ x.place ++ ⟨#[32]⟩ ++ x.cause ++ ⟨#[32]⟩).size ≤ 50 := by rw [ByteArray.size_append]; omega
    have z6 : (dateS x.day ++ ⟨#[32]⟩ ++ x.place ++ ⟨#[32]⟩ ++ x.cause ++ ⟨#[32]⟩ ++ listS [x.level, x.caught, x.buried]).size ≤ 120 := by rw [ByteArray.size_append]; omega
    have z7 : x.place.size ≤ 10 := by have := hb.out; omega
    have z8 : x.cause.size ≤ 10 := by have := hb.out; omega
    go_enter Tryd.func54, Tryd.ntmps54
    go_wp2_with fail
    refine (Incident_valid x _ hs0 hs1).mono ?_
    rintro e w' ⟨rfl, y, rfl⟩
    rw [h]
    go_wp2_with fail
    refine Grow.region_tail 21 [0, 1, 2, 3, 4, 5, 6, 7, 8, 9, 10, 11, 12, 13, 14, 15, 16, 17] [(false, 18), (false, 19), (false, 20)] (by kernel_rfl) (by kernel_rfl) ?_
    simp only [Grow.pick, Grow.pickB, List.getElem?_cons_succ, List.getElem?_cons_zero, List.drop_succ_cons, List.drop_zero]
    repeat
      refine Grow.heads_step (fun K' hK => ⟨rfl, ?_⟩)
      apply Exists.intro
      apply And.intro
      · intro w' hw'
        obtain ⟨x', rfl⟩ := hw'
        go_simp
        first | done | rfl | (rw [if_neg (by omega)]; done) | (rw [if_neg (by omega)]; rfl)
      go_simp
      refine hK _ ?_
      clear hK K'
    refine Grow.heads_call _ _ _ (fun K' hK => ⟨rfl, ?_, (fun w' h' => DateText_any x.day w' (by have := hb.out; omega) (by have := hb.out; omega) (HT.out.ext (Ext.trans (((Ext.refl w).alloc _).lift y) h'))), ?_⟩)
    · intro w' hw'
      obtain ⟨x', rfl⟩ := hw'
      go_simp
      first | done | rfl
    go_simp
    refine hK _ ?_
    clear hK K'
    repeat
      refine Grow.heads_step (fun K' hK => ⟨rfl, ?_⟩)
      apply Exists.intro
      apply And.intro
      · intro w' hw'
        obtain ⟨x', rfl⟩ := hw'
        go_simp
        first | done | rfl | (rw [if_neg (by omega)]; done) | (rw [if_neg (by omega)]; rfl)
      go_simp
      refine hK _ ?_
      clear hK K'
    refine Grow.heads_nil ?_
    intro w1 e1
    refine Grow.seq_step (fun K' hK => ⟨rfl, ?_⟩)
    go_simp
    try rw [if_neg (by omega)]
    simp only [Grow.upon]
    refine ⟨(Ext.refl _).alloc _, fun w2 e2 => hK _ _ ?_⟩
    clear hK K'
    have T2 : Ext w w2 := ((((Ext.refl w).alloc _).lift y).trans e1).alloc _ |>.trans e2
    refine Grow.seq_step (fun K' hK => ⟨rfl, ?_⟩)
    go_simp
    refine Grow.gives_upon (ListText_any _ 3 [x.level, x.caught, x.buried] _ ((intAt_new _ _ _ _ (by intro k hk; simp at hk; rcases (show k = 0 ∨ k = 1 ∨ k = 2 by omega) with rfl | rfl | rfl <;> rfl)).ext e2) (by intro k hk; simp at hk; rw [inB_iff]; have := hb.out; rcases (show k = 0 ∨ k = 1 ∨ k = 2 by omega) with rfl | rfl | rfl <;> simp [nth] <;> omega) (by simp) (HT.out.ext T2)) fun w3 e3 => hK _ _ ?_
    clear hK K'
    refine Grow.seq_step (fun K' hK => ⟨rfl, ?_⟩)
    go_simp
    try rw [if_neg (by omega)]
    simp only [Grow.upon]
    refine ⟨Ext.refl _, fun w4 e4 => hK _ _ ?_⟩
    clear hK K'
    have T3 := Lib.hid ((T2.trans e3).trans e4)
    refine Grow.seq_nil ?_
    clear e1 e2 e3 e4 T2
    go_wp2_with fail
    go_ret
    exact ⟨by rw [← hv.out]; rfl, T3.out⟩
end Go.Proofs.YtpjojmkbccdofaaDoor

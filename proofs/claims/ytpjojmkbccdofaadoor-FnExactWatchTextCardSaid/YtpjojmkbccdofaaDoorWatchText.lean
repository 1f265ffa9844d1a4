/- A watch as text. What the program's and the reference's functions on one hand back. -/
import Derived.Test.YtpjojmkbccdofaaDoorWatch
import Derived.Test.YtpjojmkbccdofaaDoorWithId
namespace Go.Proofs.YtpjojmkbccdofaaDoor
open Go.RowKit
def workS : ByteArray := ⟨#[32, 119, 111, 114, 107]⟩
def callS : ByteArray := ⟨#[32, 99, 97, 108, 108]⟩
theorem workS_size : workS.size = 5 := rfl
theorem callS_size : callS.size = 5 := rfl
def watchS (x : Watch) : ByteArray := if watchB x = true then withS x.person [x.start, x.hours] ++ (if x.call = true then callS else workS) else ⟨#[]⟩
set_option maxRecDepth 100000 in
set_option maxHeartbeats 2000000 in
theorem l26Text_any (b o : Nat) (x : Watch) (w : World) (hx : watchB x = true) (c0 : w.cell? ⟨b, o, none⟩ = some (.string x.person)) (c1 : w.cell? ⟨b, o + 1, none⟩ = some (.int .i64 x.start)) (c2 : w.cell? ⟨b, o + 2, none⟩ = some (.int .i64 x.hours)) (c3 : w.cell? ⟨b, o + 3, none⟩ = some (.bool x.call)) :
    Gives Tryd.prog 70 #[.pointer (some ⟨b, o, none⟩)] w (.string (watchS x)) := by
  unfold Gives
  have hb := Lib.hid (watchB_bd hx)
  have hw : ∀ k, k < [x.start, x.hours].length → -9223372036854775808 ≤ nth [x.start, x.hours] k ∧ nth [x.start, x.hours] k ≤ 9223372036854775807 := by
    intro k hk; simp at hk; have := hb.out; rcases (show k = 0 ∨ k = 1 by omega) with rfl | rfl <;> simp [nth] <;> omega
  have hl : (listS [x.start, x.hours]).size ≤ 45 := by have := listS_size hw; simpa using this
  have h1 : (x.person ++ ⟨#[32]⟩).size ≤ 11 := by rw [ByteArray.size_append]; have : (⟨#[32]⟩ : ByteArray).size = 1 := rfl; have := hb.out; omega
  have h2 : (x.person ++ ⟨#[32]⟩ ++ listS [x.start, x.hours]).size ≤ 56 := by rw [ByteArray.size_append]; omega
  have h3 : (⟨#[32, 99, 97, 108, 108]⟩ : ByteArray).size = 5 := rfl
  have h4 : (⟨#[32, 119, 111, 114, 107]⟩ : ByteArray).size = 5 := rfl
  have hid : x.person.size ≤ 10 := by have := hb.out; omega
  have HW := Lib.hid hw
  have hbl := block_lt c0
  cases hc : x.call
  all_goals
    have hv : Hid (x.person ++ ⟨#[32]⟩ ++ listS [x.start, x.hours] ++ (if x.call = true then callS else workS) = watchS x) := by show _ = _; unfold watchS; rw [if_pos hx]; rfl
    rw [hc] at hv c3
    have C3 := Lib.hid c3
    clear c3
    clear hw
    go_enter Tryd.func70, Tryd.ntmps70
    go_wp2_with fail
    refine Grow.region_tail 16 [0, 1, 2, 3, 4, 5, 6, 7, 8, 9, 10, 11, 12] [(false, 13), (false, 14), (false, 15)] (by kernel_rfl) (by kernel_rfl) ?_
    simp only [Grow.pick, Grow.pickB, List.getElem?_cons_succ, List.getElem?_cons_zero, List.drop_succ_cons, List.drop_zero]
    repeat
      refine Grow.heads_step (fun K' hK => ⟨rfl, ?_⟩)
      apply Exists.intro
      apply And.intro
      · intro w' hw'
        obtain ⟨x', rfl⟩ := hw'
        go_simp
        first | done | rfl | (rw [if_neg (by omega)]; done) | (rw [if_neg (by omega)]; rfl)
      go_simp
      refine hK _ ?_
      clear hK K'
    refine Grow.heads_nil ?_
    intro w1 e1
    refine Grow.seq_step (fun K' hK => ⟨rfl, ?_⟩)
    go_simp
    try rw [if_neg (by omega)]
    simp only [Grow.upon]
    refine ⟨(Ext.refl _).alloc _, fun w2 e2 => hK _ _ ?_⟩
    clear hK K'
    refine Grow.seq_step (fun K' hK => ⟨rfl, ?_⟩)
    go_simp
    refine Grow.gives_upon (l01List_any _ 2 [x.start, x.hours] _ ((intAt_new _ _ _ _ (by intro k hk; simp at hk; rcases (show k = 0 ∨ k = 1 by omega) with rfl | rfl <;> rfl)).ext e2) HW.out (by simp)) fun w3 e3 => hK _ _ ?_
    clear hK K'
    have E3 : Ext w w3 := (e1.alloc _).trans (e2.trans e3)
    replace E3 := Lib.hid E3
    clear e1 e2 e3 HW
    refine Grow.seq_step (fun K' hK => ⟨rfl, ?_⟩)
    go_simp
    try rw [if_neg (by omega)]
    simp only [Grow.upon]
    refine ⟨Ext.refl _, fun w4 e4 => hK _ _ ?_⟩
    clear hK K'
    have E5 := Lib.hid (E3.out.trans e4)
    clear e4 E3
    refine Grow.seq_nil ?_
    have c3 := E5.out.cell C3.out
    go_wp2_with fail
    go_ret
    exact ⟨by rw [← hv.out]; rfl, E5.out⟩
set_option maxHeartbeats 1000000 in
theorem specWatchText (x : Watch) (w : World) (hs0 : x.person.size ≤ 2000000) :
    Gives Tryd.prog 29 #[.agg #[.string x.person, .int .i64 x.start, .int .i64 x.hours, .bool x.call]] w (.string (watchS x)) := by
  unfold Gives
  cases h : watchB x
  · have hv : Hid ((⟨#[]⟩ : ByteArray) = watchS x) := by show _ = _; unfold watchS; rw [h]; rfl
    go_enter Tryd.func29, Tryd.ntmps29
    go_wp2_with (go_at_call 69; refine (l26One_any _ _ x _ hs0 (by go_simp) (by go_simp) (by go_simp) (by go_simp)).mono ?_; rintro e w' ⟨rfl, z, rfl⟩; rw [h])
    go_ret
    exact ⟨by rw [← hv.out]; rfl, (by repeat (first | exact Ext.refl _ | refine Ext.lift ?_ _ | refine Ext.alloc ?_ _))⟩
  · go_enter Tryd.func29, Tryd.ntmps29
    go_wp2_with (first | (go_at_call 69; refine (l26One_any _ _ x _ hs0 (by go_simp) (by go_simp) (by go_simp) (by go_simp)).mono ?_; rintro e w' ⟨rfl, z, rfl⟩; rw [h]) | (go_at_call 70; refine (l26Text_any _ _ x _ h (by go_simp) (by go_simp) (by go_simp) (by go_simp)).mono ?_; rintro e w' ⟨rfl, y, rfl⟩))
    go_ret
    exact ⟨rfl, (by repeat (first | exact Ext.refl _ | refine Ext.lift ?_ _ | refine Ext.alloc ?_ _))⟩
set_option maxRecDepth 100000 in
set_option maxHeartbeats 2000000 in
theorem implWatchText (x : Watch) (w : World) (hs0 : x.person.size ≤ 2000000) (ht : Tab w) :
    Gives Tryd.prog 31 #[.agg #[.string x.person, .int .i64 x.start, .int .i64 x.hours, .bool x.call]] w (.string (watchS x)) := by
  unfold Gives
  have HT := Lib.hid ht
  clear ht
  cases h : watchB x
  · have hv : Hid ((⟨#[]⟩ : ByteArray) = watchS x) := by show _ = _; unfold watchS; rw [h]; rfl
    go_enter Tryd.func31, Tryd.ntmps31
    go_wp2_with (go_at_call 71; refine (Watch_valid x _ hs0).mono ?_; rintro e w' ⟨rfl, y, rfl⟩; rw [h])
    go_ret
    exact ⟨by rw [← hv.out]; rfl, (by repeat (first | exact Ext.refl _ | refine Ext.lift ?_ _ | refine Ext.alloc ?_ _))⟩
  · have hb := Lib.hid (watchB_bd h)
    have hw : ∀ k, k < [x.start, x.hours].length → -9223372036854775808 ≤ nth [x.start, x.hours] k ∧ nth [x.start, x.hours] k ≤ 9223372036854775807 := by
      intro k hk; simp at hk; have := hb.out; rcases (show k = 0 ∨ k = 1 by omega) with rfl | rfl <;> simp [nth] <;> omega
    have hl : (withS x.person [x.start, x.hours]).size ≤ 56 := by have e := withS_size (id := x.person) hw; rw [show [x.start, x.hours].length = 2 from rfl] at e; have := hb.out; omega
    have h3 : (⟨#[32, 99, 97, 108, 108]⟩ : ByteArray).size = 5 := rfl
    have h4 : (⟨#[32, 119, 111, 114, 107]⟩ : ByteArray).size = 5 := rfl
    clear hw
    cases hc : x.call
    all_goals
      have hv : Hid (withS x.person [x.start, x.hours] ++ (if x.call = true then callS else workS) = watchS x) := by show _ = _; unfold watchS; rw [if_pos h]
      have hva : Hid (Watch_valid x w hs0 = Watch_valid x w hs0) := rfl
      have HV := Lib.hid fun (w' : World) => Watch_valid x w' hs0
      rw [hc] at hv HV
      rw [h] at HV
      go_enter Tryd.func31, Tryd.ntmps31
      go_wp2_with fail
      refine (HV.out _).mono ?_
      rintro e w' ⟨rfl, y, rfl⟩
      go_wp2_with fail
      refine (withId_any _ _ 2 [x.start, x.hours] _ hs0 (intAt_new' _ _ _ _ (by intro k hk; simp at hk; rcases (show k = 0 ∨ k = 1 by omega) with rfl | rfl <;> rfl) (by simp only [lift_size, size_new]))
      (by intro k hk; simp at hk; rw [inB_iff]; have := hb.out; rcases (show k = 0 ∨ k = 1 by omega) with rfl | rfl <;> simp [nth] <;> omega) (by simp) (HT.out.ext (by repeat (first | exact Ext.refl _ | refine Ext.lift ?_ _ | refine Ext.alloc ?_ _)))).mono ?_
      rintro e w' ⟨rfl, z, rfl⟩
      go_wp2_with fail
      go_ret
      exact ⟨by rw [← hv.out]; rfl, (by repeat (first | exact Ext.refl _ | refine Ext.lift ?_ _ | refine Ext.alloc ?_ _))⟩
end Go.Proofs.YtpjojmkbccdofaaDoor

/- Days as dates and as text: what the program's and the reference's functions hand back for a day from 0 to 36524. -/
import Derived.Test.YtpjojmkbccdofaaDoorDate
import Derived.Test.YtpjojmkbccdofaaDoorListText
import Derived.Test.YtpjojmkbccdofaaDoorDay
namespace Go.Proofs.YtpjojmkbccdofaaDoor
open Go.RowKit
set_option maxRecDepth 100000 in
set_option maxHeartbeats 2000000 in
theorem l02Date_any (day : Int) (w : World) (h0 : 0 ≤ day) (h1 : day ≤ 36524) :
    Gives Tryd.prog 132 #[.int .i64 day] w (.tuple #[.int .i64 (dateOf day).1, .int .i64 (dateOf day).2.1, .int .i64 (dateOf day).2.2]) := by
  unfold Gives
  go_enter Tryd.func132, Tryd.ntmps132
  go_wp2_with fail
  go_loopw [0, 5, 6] (fun d y m wr => ∃ Y M R : Int, d = .int .i64 R ∧ y = .int .i64 Y ∧ m = .int .i64 M ∧ 2000 ≤ Y ∧ Y ≤ 2000 + day ∧ 1 ≤ M ∧ M ≤ 12 ∧ 0 ≤ R ∧ R ≤ day ∧ Hid (day = dby Y + cum Y M + R) ∧ Ext w wr) (fun d _ _ _ => (intOf d).toNat)
  case atStart => exact ⟨2000, 1, day, rfl, rfl, rfl, by omega, by omega, by omega, by omega, h0, by omega, by show _ = _; rw [cum_1]; unfold dby; omega, Ext.refl w⟩
  case round =>
    obtain ⟨Y, M, R, rfl, rfl, rfl, y0, y1, m0, m1, r0, r1, hd, he⟩ := hrel
    obtain ⟨l0, l1⟩ := mlen_bd Y M
    by_cases hlt : mlen Y M ≤ R
    · by_cases hM : M = 12
      · subst hM
        have hnx : Hid (day = dby (Y + 1) + cum (Y + 1) 1 + (R - mlen Y 12)) := by
          show _ = _
          have e := cum_succ (y := Y) (m := 12) (by omega) (by omega)
          rw [show (12 : Int) + 1 = 13 by omega, cum_13] at e
          rw [cum_1, dby_succ]; have := hd.out; omega
        have hY : Y + 1 ≤ 2000 + day := by
          have h2 := hnx.out; rw [cum_1] at h2; unfold dby at h2; omega
        clear hd
        go_wp2_with (go_at_call 142; refine (l02Length_any Y 12 _ (by omega) (by omega) (by omega) (by omega)).mono ?_; rintro e w' ⟨rfl, z, rfl⟩)
        go_roundw
        case rel => exact ⟨Y + 1, 1, R - mlen Y 12, rfl, rfl, rfl, by omega, hY, by omega, by omega, by omega, by omega, hnx.out, (by repeat (first | exact he | refine Ext.lift ?_ _ | refine Ext.alloc ?_ _))⟩
        case measure => simp [intOf]; omega
      · have hnx : Hid (day = dby Y + cum Y (M + 1) + (R - mlen Y M)) := by
          show _ = _; rw [cum_succ m0 m1]; have := hd.out; omega
        have hd12 : decide (12 < M + 1) = false := decide_eq_false (by omega)
        clear hd
        go_wp2_with (go_at_call 142; refine (l02Length_any Y M _ (by omega) (by omega) (by omega) (by omega)).mono ?_; rintro e w' ⟨rfl, z, rfl⟩)
        go_roundw
        case rel => exact ⟨Y, M + 1, R - mlen Y M, rfl, rfl, rfl, by omega, by omega, by omega, by omega, by omega, by omega, hnx.out, (by repeat (first | exact he | refine Ext.lift ?_ _ | refine Ext.alloc ?_ _))⟩
        case measure => simp [intOf]; omega
    · have hok : Hid (dateOf day = (Y, M, R + 1)) := dateOf_eq ⟨m0, m1, by have := hd.out; omega, by omega, by omega⟩
      clear hd
      go_wp2_with (go_at_call 142; refine (l02Length_any Y M _ (by omega) (by omega) (by omega) (by omega)).mono ?_; rintro e w' ⟨rfl, z, rfl⟩)
      go_ret3
      exact ⟨by rw [hok.out]; rfl, (by repeat (first | exact he | refine Ext.lift ?_ _ | refine Ext.alloc ?_ _))⟩
set_option maxRecDepth 100000 in
set_option maxHeartbeats 4000000 in
theorem DateOf_any (day : Int) (w : World) (h0 : 0 ≤ day) (h1 : day ≤ 36524) :
    Gives Tryd.prog 121 #[.int .i64 day] w (.tuple #[.int .i64 (dateOf day).1, .int .i64 (dateOf day).2.1, .int .i64 (dateOf day).2.2, .int .i64 0]) := by
  unfold Gives
  have hin : inB day 0 36524 = true := inB_iff.2 ⟨h0, h1⟩
  have hq : 0 ≤ day / 1461 ∧ day / 1461 ≤ 24 := by omega
  have hr : 0 ≤ day % 1461 ∧ day % 1461 ≤ 1460 := by omega
  obtain ⟨q0, q1⟩ := hq
  obtain ⟨r0, r1⟩ := hr
  have hst : Hid (day = dby (2000 + day / 1461 * 4) + day % 1461) := by show _ = _; unfold dby; omega
  go_enter Tryd.func121, Tryd.ntmps121
  go_wp2_with (go_at_call 119; refine (Gives.same (dayValid_any _ _)).mono ?_; rintro e w' ⟨rfl, x0, rfl⟩; rw [hin])
  go_loopw [6, 7] (fun y r wr => ∃ Y R : Int, y = .int .i64 Y ∧ r = .int .i64 R ∧ 2000 ≤ Y ∧ Y ≤ 2000 + day ∧ 0 ≤ R ∧ R ≤ 1460 ∧ Hid (day = dby Y + R) ∧ Ext w wr) (fun _ r _ => (intOf r).toNat)
  case atStart => exact ⟨_, _, rfl, rfl, by omega, by omega, by omega, by omega, hst.out, (by repeat (first | exact Ext.refl _ | refine Ext.lift ?_ _ | refine Ext.alloc ?_ _))⟩
  case round =>
    obtain ⟨Y, R, rfl, rfl, y0, y1, r0, r1, hd, he⟩ := hrel
    obtain ⟨l0, l1⟩ := ylen_bd Y
    by_cases hlt : ylen Y ≤ R
    · have hnx : Hid (day = dby (Y + 1) + (R - ylen Y)) := by show _ = _; rw [dby_succ]; have := hd.out; omega
      have hY : Y + 1 ≤ 2000 + day := by
        have := hnx.out; unfold dby at this; omega
      clear hd
      go_wp2_with (go_at_call 134; refine (daysIn_any Y 0 _ (by omega) (by omega) (by omega) (by omega)).mono ?_; rintro e w' ⟨rfl, z, rfl⟩; rw [show dlen Y 0 = ylen Y from rfl])
      go_roundw
      case rel => exact ⟨Y + 1, R - ylen Y, rfl, rfl, by omega, hY, by omega, by omega, hnx.out, (by repeat (first | exact he | refine Ext.lift ?_ _ | refine Ext.alloc ?_ _))⟩
      case measure => simp [intOf]; omega
    · have hst2 : Hid (day = dby Y + cum Y 1 + R) := by show _ = _; rw [cum_1]; have := hd.out; omega
      have hR : R < ylen Y := by omega
      clear hd
      go_wp2_with (go_at_call 134; refine (daysIn_any Y 0 _ (by omega) (by omega) (by omega) (by omega)).mono ?_; rintro e w' ⟨rfl, z, rfl⟩; rw [show dlen Y 0 = ylen Y from rfl])
      obtain ⟨wo, hwo⟩ : ∃ wo, wo = lift wr z := ⟨_, rfl⟩
      have he1 : Ext w wo := by rw [hwo]; exact (by repeat (first | exact he | refine Ext.lift ?_ _ | refine Ext.alloc ?_ _))
      rw [← hwo]
      clear hwo he
      go_loopw [7, 8] (fun r m wr => ∃ M R' : Int, m = .int .i64 M ∧ r = .int .i64 R' ∧ 1 ≤ M ∧ M ≤ 12 ∧ 0 ≤ R' ∧ R' ≤ 1460 ∧ Hid (day = dby Y + cum Y M + R') ∧ Hid (cum Y M + R' < ylen Y) ∧ Ext w wr) (fun r _ _ => (intOf r).toNat)
      case atStart => exact ⟨1, R, rfl, rfl, by omega, by omega, by omega, by omega, hst2.out, by show _ < _; rw [cum_1]; omega, he1⟩
      case round =>
        obtain ⟨M, R', rfl, rfl, m0, m1, s0, s1, hd2, hlt2, he2⟩ := hrel
        obtain ⟨l2, l3⟩ := mlen_bd Y M
        by_cases hlt3 : mlen Y M ≤ R'
        · have hnx : Hid (day = dby Y + cum Y (M + 1) + (R' - mlen Y M)) := by show _ = _; rw [cum_succ m0 m1]; have := hd2.out; omega
          have hM : M ≠ 12 := by
            rintro rfl
            have := cum_succ (y := Y) (m := 12) (by omega) (by omega)
            have := cum_13 Y
            have := hlt2.out
            rw [show (12 : Int) + 1 = 13 from rfl] at *
            omega
          have hlt4 : Hid (cum Y (M + 1) + (R' - mlen Y M) < ylen Y) := by show _ < _; rw [cum_succ m0 m1]; have := hlt2.out; omega
          clear hd2 hlt2
          go_wp2_with (go_at_call 134; refine (daysIn_any Y M _ (by omega) (by omega) (by omega) (by omega)).mono ?_; rintro e w' ⟨rfl, z, rfl⟩; rw [show dlen Y M = mlen Y M from if_neg (by omega)])
          go_roundw
          case rel => exact ⟨M + 1, R' - mlen Y M, rfl, rfl, by omega, by omega, by omega, by omega, hnx.out, hlt4.out, (by repeat (first | exact he2 | refine Ext.lift ?_ _ | refine Ext.alloc ?_ _))⟩
          case measure => simp [intOf]; omega
        · have hok : Hid (dateOf day = (Y, M, R' + 1)) := dateOf_eq ⟨m0, m1, by have := hd2.out; omega, by omega, by omega⟩
          clear hd2 hlt2
          go_wp2_with (go_at_call 134; refine (daysIn_any Y M _ (by omega) (by omega) (by omega) (by omega)).mono ?_; rintro e w' ⟨rfl, z, rfl⟩; rw [show dlen Y M = mlen Y M from if_neg (by omega)])
          exact bodyPost_ret (v := .tuple #[.int .i64 (dateOf day).1, .int .i64 (dateOf day).2.1, .int .i64 (dateOf day).2.2, .int .i64 0]) (by rw [hok.out]; simp [results, Tryd.results121, go_sem]) rfl ⟨rfl, (by repeat (first | exact he2 | refine Ext.lift ?_ _ | refine Ext.alloc ?_ _))⟩
theorem twoS_size (n : Nat) : (twoS n).size = 2 := rfl
set_option maxRecDepth 100000 in
set_option maxHeartbeats 1000000 in
theorem twoDigits_any (n : Int) (w : World) (h0 : 0 ≤ n) (h1 : n ≤ 99) :
    Gives Tryd.prog 122 #[.int .i64 n] w (.string (twoS n.toNat)) := by
  unfold Gives
  have hcv := run_convert_bytes_arg (P := Tryd.prog) (w.alloc (.cells #[.int .u8 (48 + n / 10), .int .u8 (48 + n % 10)] 5)) 151 5 Tryd.underlying151 Tryd.underlying5 w.heap.size 0 2 2 [48 + n / 10, 48 + n % 10] rfl
    (fun i hi => by rcases (show i = 0 ∨ i = 1 by omega) with rfl | rfl <;> (rw [cell_new]; rfl)) 9 Tryd.underlying9
  have hst : strOfNums [48 + n / 10, 48 + n % 10] = twoS n.toNat := by
    unfold strOfNums twoS
    simp only [List.map_cons, List.map_nil]
    rw [show (48 + n / 10).toNat = 48 + n.toNat / 10 by omega, show (48 + n % 10).toNat = 48 + n.toNat % 10 by omega]
  rw [hst] at hcv
  clear hst
  go_enter Tryd.func122, Tryd.ntmps122
  go_wp2_with fail
  go_ret
  exact ⟨rfl, (by repeat (first | exact Ext.refl _ | refine Ext.lift ?_ _ | refine Ext.alloc ?_ _))⟩
set_option maxRecDepth 100000 in
set_option maxHeartbeats 1000000 in
theorem l02Two_any (n : Int) (w : World) (h0 : 0 ≤ n) (h1 : n ≤ 31) :
    Gives Tryd.prog 133 #[.int .i64 n] w (.string (twoS n.toNat)) := by
  unfold Gives
  obtain ⟨k, rfl⟩ := Int.eq_ofNat_of_zero_le h0
  by_cases hk : k < 10
  · have hv := Lib.hid (twoS_low k hk)
    have hd := decS_size (k : Int) (by omega) (by omega)
    have hs : (⟨#[48]⟩ : ByteArray).size = 1 := rfl
    have hs2 : ((⟨#[48]⟩ : ByteArray) ++ decS (k : Int)).size ≤ 22 := by rw [ByteArray.size_append]; omega
    go_enter Tryd.func133, Tryd.ntmps133
    go_wp2_with (go_at_call 87; refine (l01Dec_any _ _ (by omega) (by omega)).mono ?_; rintro e w' ⟨rfl, y, rfl⟩)
    go_ret
    exact ⟨by rw [Int.toNat_natCast, ← hv.out]; rfl, (by repeat (first | exact Ext.refl _ | refine Ext.lift ?_ _ | refine Ext.alloc ?_ _))⟩
  · have hv := Lib.hid (twoS_high k (by omega) (by omega))
    go_enter Tryd.func133, Tryd.ntmps133
    go_wp2_with (go_at_call 87; refine (l01Dec_any _ _ (by omega) (by omega)).mono ?_; rintro e w' ⟨rfl, y, rfl⟩)
    go_ret
    exact ⟨by rw [Int.toNat_natCast, ← hv.out]; rfl, (by repeat (first | exact Ext.refl _ | refine Ext.lift ?_ _ | refine Ext.alloc ?_ _))⟩
/-- Every day has a date. -/
theorem date_ex {day : Int} (h0 : 0 ≤ day) (h1 : day ≤ 36524) : ∃ y m d, dateOf day = (y, m, d) ∧ 2000 ≤ y ∧ y ≤ 2100 ∧ 1 ≤ m ∧ m ≤ 12 ∧ 1 ≤ d ∧ d ≤ 31 := by
  have hy : ∀ n : Nat, day < dby (2000 + (n : Int)) → ∃ y : Int, 2000 ≤ y ∧ y < 2000 + (n : Int) ∧ dby y ≤ day ∧ day < dby (y + 1) := by
    intro n
    induction n with
    | zero => intro h; unfold dby at h; omega
    | succ n ih =>
      intro h
      rcases Int.lt_or_le day (dby (2000 + (n : Int))) with h2 | h2
      · obtain ⟨y, a, b, c, d⟩ := ih h2
        exact ⟨y, a, by omega, c, d⟩
      · exact ⟨2000 + (n : Int), by omega, by omega, h2, by rw [show (2000 : Int) + (n : Int) + 1 = 2000 + ((n + 1 : Nat) : Int) by omega]; exact h⟩
  obtain ⟨y, y0, y1, c, e⟩ := hy 100 (by unfold dby; omega)
  have hm : ∀ n : Nat, n ≤ 12 → day < dby y + cum y (1 + (n : Int)) → ∃ m : Int, 1 ≤ m ∧ m ≤ 12 ∧ dby y + cum y m ≤ day ∧ day < dby y + cum y (m + 1) := by
    intro n
    induction n with
    | zero => intro _ h; rw [show (1 : Int) + ((0 : Nat) : Int) = 1 by omega, cum_1] at h; omega
    | succ n ih =>
      intro hn h
      rcases Int.lt_or_le day (dby y + cum y (1 + (n : Int))) with h2 | h2
      · exact ih (by omega) h2
      · exact ⟨1 + (n : Int), by omega, by omega, h2, by rw [show (1 : Int) + (n : Int) + 1 = 1 + ((n + 1 : Nat) : Int) by omega]; exact h⟩
  obtain ⟨m, m0, m1, f, g⟩ := hm 12 (by omega) (by rw [show (1 : Int) + ((12 : Nat) : Int) = 13 by omega, cum_13]; rw [dby_succ] at e; exact e)
  rw [cum_succ m0 m1] at g
  have := mlen_bd y m
  refine ⟨y, m, day - dby y - cum y m + 1, dateOf_eq ⟨m0, m1, by omega, by omega, by omega⟩, y0, by omega, m0, m1, by omega, by omega⟩
theorem dateS_eq {day y m d : Int} (h : dateOf day = (y, m, d)) : dateS day = decS y ++ ⟨#[45]⟩ ++ twoS m.toNat ++ ⟨#[45]⟩ ++ twoS d.toNat := by unfold dateS; rw [h]
theorem dateS_size {day : Int} (h0 : 0 ≤ day) (h1 : day ≤ 36524) : (dateS day).size ≤ 27 := by
  obtain ⟨y, m, d, e, a, b, -⟩ := date_ex h0 h1
  rw [dateS_eq e]
  have := decS_size y (by omega) (by omega)
  have h45 : (⟨#[45]⟩ : ByteArray).size = 1 := rfl
  simp only [ByteArray.size_append, twoS_size]; omega
set_option maxRecDepth 100000 in
set_option maxHeartbeats 2000000 in
theorem DateText_any (day : Int) (w : World) (h0 : 0 ≤ day) (h1 : day ≤ 36524) (ht : Tab w) :
    Gives Tryd.prog 96 #[.int .i64 day] w (.string (dateS day)) := by
  unfold Gives
  have HT := Lib.hid ht
  clear ht
  obtain ⟨y, m, d, e, y0, y1, m0, m1, d0, d1⟩ := date_ex h0 h1
  have hD := Lib.hid (DateOf_any day w h0 h1)
  rw [e] at hD
  have hv := Lib.hid (dateS_eq e)
  have hd := decS_size y (by omega) (by omega)
  have h45 : (⟨#[45]⟩ : ByteArray).size = 1 := rfl
  have s1 : (decS y ++ ⟨#[45]⟩).size ≤ 22 := by rw [ByteArray.size_append]; omega
  have s2 : (decS y ++ ⟨#[45]⟩ ++ twoS m.toNat).size ≤ 24 := by rw [ByteArray.size_append, twoS_size]; omega
  have s3 : (decS y ++ ⟨#[45]⟩ ++ twoS m.toNat ++ ⟨#[45]⟩).size ≤ 25 := by rw [ByteArray.size_append]; omega
  have s4 := twoS_size m.toNat
  have s5 := twoS_size d.toNat
  clear e
  go_enter Tryd.func96, Tryd.ntmps96
  go_wp2_with fail
  refine hD.out.mono ?_
  rintro e w' ⟨rfl, x, rfl⟩
  go_wp2_with fail
  refine (Decimal_any _ _ (by omega) (by omega) (HT.out.ext (by repeat (first | exact Ext.refl _ | refine Ext.lift ?_ _ | refine Ext.alloc ?_ _)))).mono ?_
  rintro e w' ⟨rfl, x2, rfl⟩
  go_wp2_with fail
  refine (twoDigits_any _ _ (by omega) (by omega)).mono ?_
  rintro e w' ⟨rfl, x3, rfl⟩
  go_wp2_with fail
  refine (twoDigits_any _ _ (by omega) (by omega)).mono ?_
  rintro e w' ⟨rfl, x4, rfl⟩
  go_wp2_with fail
  go_ret
  exact ⟨by rw [hv.out]; rfl, (by repeat (first | exact Ext.refl _ | refine Ext.lift ?_ _ | refine Ext.alloc ?_ _))⟩
set_option maxRecDepth 100000 in
set_option maxHeartbeats 2000000 in
theorem l02Text_any (day : Int) (w : World) (h0 : 0 ≤ day) (h1 : day ≤ 36524) :
    Gives Tryd.prog 118 #[.int .i64 day] w (.string (dateS day)) := by
  unfold Gives
  obtain ⟨y, m, d, e, y0, y1, m0, m1, d0, d1⟩ := date_ex h0 h1
  have hD := Lib.hid (l02Date_any day w h0 h1)
  rw [e] at hD
  have hv := Lib.hid (dateS_eq e)
  have hd := decS_size y (by omega) (by omega)
  have h45 : (⟨#[45]⟩ : ByteArray).size = 1 := rfl
  have s1 : (decS y ++ ⟨#[45]⟩).size ≤ 22 := by rw [ByteArray.size_append]; omega
  have s2 : (decS y ++ ⟨#[45]⟩ ++ twoS m.toNat).size ≤ 24 := by rw [ByteArray.size_append, twoS_size]; omega
  have s3 : (decS y ++ ⟨#[45]⟩ ++ twoS m.toNat ++ ⟨#[45]⟩).size ≤ 25 := by rw [ByteArray.size_append]; omega
  have s4 := twoS_size m.toNat
  have s5 := twoS_size d.toNat
  clear e
  go_enter Tryd.func118, Tryd.ntmps118
  go_wp2_with fail
  refine hD.out.mono ?_
  rintro e w' ⟨rfl, x, rfl⟩
  go_wp2_with fail
  refine (l01Dec_any _ _ (by omega) (by omega)).mono ?_
  rintro e w' ⟨rfl, x2, rfl⟩
  go_wp2_with fail
  refine (l02Two_any _ _ (by omega) (by omega)).mono ?_
  rintro e w' ⟨rfl, x3, rfl⟩
  go_wp2_with fail
  refine (l02Two_any _ _ (by omega) (by omega)).mono ?_
  rintro e w' ⟨rfl, x4, rfl⟩
  go_wp2_with fail
  go_ret
  exact ⟨by rw [hv.out]; rfl, (by repeat (first | exact Ext.refl _ | refine Ext.lift ?_ _ | refine Ext.alloc ?_ _))⟩
end Go.Proofs.YtpjojmkbccdofaaDoor

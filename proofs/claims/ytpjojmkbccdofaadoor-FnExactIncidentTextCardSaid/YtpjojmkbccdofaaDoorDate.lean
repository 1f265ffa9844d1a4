/- Days and dates: what the program's and the reference's functions hand back for a day from 0 to 36524. -/
import Derived.Test.YtpjojmkbccdofaaDoorAnd
import Derived.Test.YtpjojmkbccdofaaDoorDec
namespace Go.Proofs.YtpjojmkbccdofaaDoor
open Go.RowKit
def leapB (y : Int) : Bool := y % 4 == 0
def mlen (y m : Int) : Int := if m = 2 then (if leapB y = true then 29 else 28) else if m = 4 ∨ m = 6 ∨ m = 9 ∨ m = 11 then 30 else 31
def ylen (y : Int) : Int := if leapB y = true then 366 else 365
def cumT (m : Int) : Int := if m = 1 then 0 else if m = 2 then 31 else if m = 3 then 59 else if m = 4 then 90 else if m = 5 then 120 else if m = 6 then 151 else if m = 7 then 181 else if m = 8 then 212 else if m = 9 then 243 else if m = 10 then 273 else if m = 11 then 304 else if m = 12 then 334 else 365
def cum (y m : Int) : Int := cumT m + (if 2 < m ∧ leapB y = true then 1 else 0)
def dby (y : Int) : Int := 365 * (y - 2000) + (y - 2000 + 3) / 4
theorem m12 {m : Int} (h1 : 1 ≤ m) (h2 : m ≤ 12) : m = 1 ∨ m = 2 ∨ m = 3 ∨ m = 4 ∨ m = 5 ∨ m = 6 ∨ m = 7 ∨ m = 8 ∨ m = 9 ∨ m = 10 ∨ m = 11 ∨ m = 12 := by omega
theorem cum_succ {y m : Int} (h1 : 1 ≤ m) (h2 : m ≤ 12) : cum y (m + 1) = cum y m + mlen y m := by
  rcases m12 h1 h2 with rfl | rfl | rfl | rfl | rfl | rfl | rfl | rfl | rfl | rfl | rfl | rfl <;> cases h : leapB y <;> simp [cum, cumT, mlen, h]
theorem cum_13 (y : Int) : cum y 13 = ylen y := by cases h : leapB y <;> simp [cum, cumT, ylen, h]
theorem cum_1 (y : Int) : cum y 1 = 0 := by simp [cum, cumT]
theorem leapB_iff {y : Int} : leapB y = true ↔ y % 4 = 0 := by simp [leapB]
theorem dby_succ (y : Int) : dby (y + 1) = dby y + ylen y := by
  unfold dby ylen
  by_cases h : leapB y = true
  · rw [if_pos h]; rw [leapB_iff] at h; omega
  · rw [if_neg h]; rw [leapB_iff] at h; omega
theorem mlen_bd (y m : Int) : 28 ≤ mlen y m ∧ mlen y m ≤ 31 := by
  unfold mlen; split
  · split <;> omega
  · split <;> omega
theorem ylen_bd (y : Int) : 365 ≤ ylen y ∧ ylen y ≤ 366 := by unfold ylen; split <;> omega
theorem cum_bd {y m : Int} (h1 : 1 ≤ m) (h2 : m ≤ 13) : 0 ≤ cum y m ∧ cum y m ≤ 366 := by
  rcases Int.lt_or_le m 13 with h | h
  · rcases m12 h1 (by omega) with rfl | rfl | rfl | rfl | rfl | rfl | rfl | rfl | rfl | rfl | rfl | rfl <;> cases h : leapB y <;> simp [cum, cumT, h]
  · obtain rfl : m = 13 := by omega
    rw [cum_13]; have := ylen_bd y; omega
theorem cum_mono {y m m' : Int} (h1 : 1 ≤ m) (h : m ≤ m') (h2 : m' ≤ 13) : cum y m ≤ cum y m' := by
  rcases Int.lt_or_le m' 13 with h3 | h3
  · rcases m12 h1 (by omega) with rfl | rfl | rfl | rfl | rfl | rfl | rfl | rfl | rfl | rfl | rfl | rfl <;> rcases m12 (by omega : 1 ≤ m') (by omega) with rfl | rfl | rfl | rfl | rfl | rfl | rfl | rfl | rfl | rfl | rfl | rfl <;> first | (exfalso; omega) | (cases h : leapB y <;> simp [cum, cumT, h])
  · obtain rfl : m' = 13 := by omega
    rcases Int.lt_or_le m 13 with h4 | h4
    · rcases m12 h1 (by omega) with rfl | rfl | rfl | rfl | rfl | rfl | rfl | rfl | rfl | rfl | rfl | rfl <;> cases h : leapB y <;> simp [cum, cumT, h]
    · obtain rfl : m = 13 := by omega
      omega
theorem dby_mono {y y' : Int} (h : y ≤ y') : dby y ≤ dby y' := by unfold dby; omega
structure DateOk (day y m d : Int) : Prop where
  m1 : 1 ≤ m
  m12 : m ≤ 12
  eq : day = dby y + cum y m + (d - 1)
  d1 : 1 ≤ d
  d2 : d ≤ mlen y m
theorem DateOk.unique {day y m d y' m' d' : Int} (h : DateOk day y m d) (k : DateOk day y' m' d') : y = y' ∧ m = m' ∧ d = d' := by
  have low : ∀ {y m d y' m' d' : Int}, DateOk day y m d → DateOk day y' m' d' → ¬ y < y' := fun {y m d y' m' d'} h k hlt => by
    have e1 := cum_succ (y := y) h.m1 h.m12
    have e2 := cum_mono (y := y) (m := m + 1) (m' := 13) (by have := h.m1; omega) (by have := h.m12; omega) (by omega)
    rw [cum_13] at e2
    have e3 := dby_succ y
    have e4 := dby_mono (y := y + 1) (y' := y') (by omega)
    have e5 := cum_bd (y := y') k.m1 (by have := k.m12; omega)
    have := h.eq; have := k.eq; have := h.d2; have := k.d1
    omega
  have ey : y = y' := by
    have := low h k; have := low k h; omega
  subst ey
  have lowm : ∀ {m d m' d' : Int}, DateOk day y m d → DateOk day y m' d' → ¬ m < m' := fun {m d m' d'} h k hlt => by
    have e1 := cum_succ (y := y) h.m1 h.m12
    have e2 := cum_mono (y := y) (m := m + 1) (m' := m') (by have := h.m1; omega) (by omega) (by have := k.m12; omega)
    have := h.eq; have := k.eq; have := h.d2; have := k.d1
    omega
  have em : m = m' := by
    have := lowm h k; have := lowm k h; omega
  subst em
  exact ⟨rfl, rfl, by have := h.eq; have := k.eq; omega⟩
open Classical in
noncomputable def dateOf (day : Int) : Int × Int × Int := if h : ∃ t : Int × Int × Int, DateOk day t.1 t.2.1 t.2.2 then Classical.choose h else (0, 0, 0)
theorem dateOf_eq {day y m d : Int} (h : DateOk day y m d) : dateOf day = (y, m, d) := by
  have hx : ∃ t : Int × Int × Int, DateOk day t.1 t.2.1 t.2.2 := ⟨(y, m, d), h⟩
  unfold dateOf
  rw [dif_pos hx]
  obtain ⟨h1, h2, h3⟩ := (Classical.choose_spec hx).unique h
  exact Prod.ext h1 (Prod.ext h2 h3)
/-- Two digits. -/
def twoS (n : Nat) : ByteArray := ⟨#[UInt8.ofNat (48 + n / 10), UInt8.ofNat (48 + n % 10)]⟩
theorem twoS_low : ∀ n : Nat, n < 10 → (⟨#[48]⟩ : ByteArray) ++ decS n = twoS n := by decide +kernel
theorem twoS_high : ∀ n : Nat, n < 32 → 10 ≤ n → decS n = twoS n := by decide +kernel
noncomputable def dateS (day : Int) : ByteArray := decS (dateOf day).1 ++ ⟨#[45]⟩ ++ twoS (dateOf day).2.1.toNat ++ ⟨#[45]⟩ ++ twoS (dateOf day).2.2.toNat
def dlen (y m : Int) : Int := if m = 0 then ylen y else mlen y m
def dtab (m : Int) : Int := if m = 0 then 365 else if m = 2 then 28 else if m = 4 ∨ m = 6 ∨ m = 9 ∨ m = 11 then 30 else 31
theorem dtab_len {y m : Int} (h1 : 0 ≤ m) : dtab m + (if leapB y = true ∧ (m = 0 ∨ m = 2) then 1 else 0) = dlen y m := by
  unfold dlen dtab ylen mlen
  by_cases h0 : m = 0
  · subst h0; cases h : leapB y <;> simp
  · by_cases h2 : m = 2
    · subst h2; cases h : leapB y <;> simp
    · simp [h0, h2]
theorem dtab_index (m : Int) (h1 : 0 ≤ m) (h2 : m ≤ 12) (w : World) : (Instr.index 180 (.agg #[.int .i64 365, .int .i64 31, .int .i64 28, .int .i64 31, .int .i64 30, .int .i64 31, .int .i64 30, .int .i64 31, .int .i64 31, .int .i64 30, .int .i64 31, .int .i64 30, .int .i64 31]) (.int .i64 m)).run Tryd.prog w = .ok (.int .i64 (dtab m)) w := by
  rcases (show m = 0 ∨ m = 1 ∨ m = 2 ∨ m = 3 ∨ m = 4 ∨ m = 5 ∨ m = 6 ∨ m = 7 ∨ m = 8 ∨ m = 9 ∨ m = 10 ∨ m = 11 ∨ m = 12 by omega) with rfl | rfl | rfl | rfl | rfl | rfl | rfl | rfl | rfl | rfl | rfl | rfl | rfl <;> kernel_rfl
set_option maxRecDepth 100000 in
set_option maxHeartbeats 2000000 in
theorem daysIn_any (y m : Int) (w : World) (hy : 0 ≤ y) (hy2 : y ≤ 100000) (h1 : 0 ≤ m) (h2 : m ≤ 12) :
    Gives Tryd.prog 134 #[.int .i64 y, .int .i64 m] w (.int .i64 (dlen y m)) := by
  unfold Gives
  have hd : 28 ≤ dtab m ∧ dtab m ≤ 365 := by unfold dtab; split <;> (try split) <;> (try split) <;> omega
  obtain ⟨d1, d2⟩ := hd
  have hv : Hid (dtab m + (if leapB y = true ∧ (m = 0 ∨ m = 2) then 1 else 0) = dlen y m) := dtab_len h1
  have hi := dtab_index m h1 h2
  cases hl : (y % 4 == 0) <;> cases h0 : (m == 0) <;> cases hm : (m == 2)
  all_goals
    have hs : Hid (dtab m + (if leapB y = true ∧ (m = 0 ∨ m = 2) then 1 else 0) = dtab m + (if ((y % 4 == 0) && ((m == 0) || (m == 2))) = true then 1 else 0)) := by
      show _ = _; congr 1; simp only [leapB, Bool.and_eq_true, Bool.or_eq_true, beq_iff_eq]
    rw [hl, h0, hm] at hs
    have hs' : Hid (dtab m + (if leapB y = true ∧ (m = 0 ∨ m = 2) then 1 else 0) = _) := hs.out
    clear hs
    go_enter Tryd.func134, Tryd.ntmps134
    go_wp2
    go_ret
    exact ⟨ret_int (by rw [← hv.out, hs'.out]; simp), (by repeat (first | exact Ext.refl _ | refine Ext.lift ?_ _ | refine Ext.alloc ?_ _))⟩
def mtab (k : Nat) : Int := if k = 1 then 28 else if k = 3 ∨ k = 5 ∨ k = 8 ∨ k = 10 then 30 else 31
set_option maxRecDepth 100000 in
set_option maxHeartbeats 2000000 in
theorem l02Length_any (y m : Int) (w : World) (hy : 0 ≤ y) (hy2 : y ≤ 100000) (h1 : 1 ≤ m) (h2 : m ≤ 12) :
    Gives Tryd.prog 142 #[.int .i64 y, .int .i64 m] w (.int .i64 (mlen y m)) := by
  unfold Gives
  obtain ⟨k, hk⟩ := Int.eq_ofNat_of_zero_le (show 0 ≤ m - 1 by omega)
  obtain rfl : m = (k : Int) + 1 := by omega
  have hk12 : k < 12 := by omega
  have hc : ∀ W : World, (W.alloc (.cells #[.int .i64 31, .int .i64 28, .int .i64 31, .int .i64 30, .int .i64 31, .int .i64 30, .int .i64 31, .int .i64 31, .int .i64 30, .int .i64 31, .int .i64 30, .int .i64 31] 2)).cell? ⟨W.heap.size, k, none⟩ = some (.int .i64 (mtab k)) := fun W => by
    rw [cell_new]
    rcases (show k = 0 ∨ k = 1 ∨ k = 2 ∨ k = 3 ∨ k = 4 ∨ k = 5 ∨ k = 6 ∨ k = 7 ∨ k = 8 ∨ k = 9 ∨ k = 10 ∨ k = 11 by omega) with rfl | rfl | rfl | rfl | rfl | rfl | rfl | rfl | rfl | rfl | rfl | rfl <;> rfl
  have hc0 := hc w
  have hm0 : ((k : Int) + 1 - 1) = k := by omega
  have hv : Hid (mlen y ((k : Int) + 1) = if ((k : Int) + 1 == 2) = true ∧ (y % 4 == 0) = true then 29 else mtab k) := by
    show _ = _
    unfold mlen mtab leapB
    rcases (show k = 0 ∨ k = 1 ∨ k = 2 ∨ k = 3 ∨ k = 4 ∨ k = 5 ∨ k = 6 ∨ k = 7 ∨ k = 8 ∨ k = 9 ∨ k = 10 ∨ k = 11 by omega) with rfl | rfl | rfl | rfl | rfl | rfl | rfl | rfl | rfl | rfl | rfl | rfl <;> cases h : (y % 4 == 0) <;> simp
  clear hc hk h2 h1
  cases hl : (y % 4 == 0) <;> cases h0 : ((k : Int) + 1 == 2)
  all_goals
    rw [hl, h0] at hv
    go_enter Tryd.func142, Tryd.ntmps142
    go_wp2
    go_ret
    exact ⟨ret_int (by rw [hv.out]; simp), (by repeat (first | exact Ext.refl _ | refine Ext.lift ?_ _ | refine Ext.alloc ?_ _))⟩
end Go.Proofs.YtpjojmkbccdofaaDoor

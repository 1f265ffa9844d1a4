/- Chapter 1 of the program and of the reference: bounds, names, division. What each function hands back, as a Lean function of its arguments; no call changes memory that was there. -/
import Derived.Test.YtdopffhekinbnaaRows
import Derived.Test.YtdopffhekinbnaaBase
namespace Go.Proofs.Ytdopffhekinbnaa
open Go.RowKit

def inB (a b c : Int) : Bool := decide (b ≤ a) && decide (a ≤ c)
theorem inB_iff {a b c : Int} : inB a b c = true ↔ b ≤ a ∧ a ≤ c := by simp [inB]
theorem inB_not {a b c : Int} (h : ¬ (b ≤ a ∧ a ≤ c)) : inB a b c = false := by rw [← Bool.not_eq_true, inB_iff]; exact h
def smallB (c : Int) : Bool := decide (97 ≤ c) && decide (c ≤ 122)
def digitB (c : Int) : Bool := decide (48 ≤ c) && decide (c ≤ 57)
def okByte (c : UInt8) : Bool := smallB c.toNat || digitB c.toNat
def bytesB (s : ByteArray) : Bool := s.data.toList.all okByte
def nameB (s : ByteArray) : Bool := decide (1 ≤ s.size) && decide (s.size ≤ 10) && smallB (s.data.toList.headD 0).toNat && bytesB s

theorem bytesB_iff (s : ByteArray) : bytesB s = true ↔ ∀ k, (h : k < s.size) → okByte s[k] = true := by
  unfold bytesB
  rw [List.all_eq_true]
  constructor
  · intro h k hk; exact h _ (by rw [show s[k] = s.data.toList[k] from rfl]; exact List.getElem_mem _)
  · intro h x hx
    obtain ⟨k, hk, rfl⟩ := List.getElem_of_mem hx
    exact h k (by simpa using hk)
theorem bytesB_true {s : ByteArray} (h : ∀ k, (h : k < s.size) → okByte s[k] = true) : true = bytesB s := ((bytesB_iff s).2 h).symm
theorem bytesB_false {s : ByteArray} (k : Nat) (hk : k < s.size) (h : okByte s[k] = false) : false = bytesB s := by
  symm; rw [← Bool.not_eq_true]; intro hb; have := (bytesB_iff s).1 hb k hk; rw [h] at this; cases this
theorem okByte_true {c : UInt8} (h : (97 ≤ (c.toNat : Int) ∧ (c.toNat : Int) ≤ 122) ∨ (48 ≤ (c.toNat : Int) ∧ (c.toNat : Int) ≤ 57)) : okByte c = true := by
  unfold okByte smallB digitB; simp only [Bool.or_eq_true, Bool.and_eq_true, decide_eq_true_eq]; exact h
theorem okByte_false {c : UInt8} (h : ¬ ((97 ≤ (c.toNat : Int) ∧ (c.toNat : Int) ≤ 122) ∨ (48 ≤ (c.toNat : Int) ∧ (c.toNat : Int) ≤ 57))) : okByte c = false := by
  rw [← Bool.not_eq_true]; unfold okByte smallB digitB; simp only [Bool.or_eq_true, Bool.and_eq_true, decide_eq_true_eq]; exact h
theorem headD_list (l : List UInt8) (h : 0 < l.length) : l.headD 0 = l[0] := by
  cases l with
  | nil => exact absurd h (Nat.lt_irrefl _)
  | cons a l => rfl
theorem headD_get (s : ByteArray) (h : 0 < s.size) : s.data.toList.headD 0 = s[0] := headD_list _ (by simpa using h)
theorem nameB_len0 {s : ByteArray} (h : (s.size : Int) < 1) : false = nameB s := by
  unfold nameB; rw [show decide (1 ≤ s.size) = false from decide_eq_false (by omega)]; simp
theorem nameB_len1 {s : ByteArray} (h : 10 < (s.size : Int)) : false = nameB s := by
  unfold nameB; rw [show decide (s.size ≤ 10) = false from decide_eq_false (by omega)]; simp
theorem nameB_first {s : ByteArray} (h0 : 0 < s.size) (h : ¬ (97 ≤ (s[0].toNat : Int) ∧ (s[0].toNat : Int) ≤ 122)) : false = nameB s := by
  unfold nameB; rw [headD_get s h0, show smallB s[0].toNat = false by rw [← Bool.not_eq_true]; unfold smallB; simp only [Bool.and_eq_true, decide_eq_true_eq]; exact h]; simp
theorem nameB_rest {s : ByteArray} (h0 : 0 < s.size) (h1 : (s.size : Int) ≤ 10) (h : 97 ≤ (s[0].toNat : Int) ∧ (s[0].toNat : Int) ≤ 122) : bytesB s = nameB s := by
  unfold nameB; rw [headD_get s h0, show smallB s[0].toNat = true by unfold smallB; simp only [Bool.and_eq_true, decide_eq_true_eq]; exact h,
    show decide (1 ≤ s.size) = true from decide_eq_true (by omega), show decide (s.size ≤ 10) = true from decide_eq_true (by omega)]; simp

/-- The nearest quotient by a positive number, halves away from 0. -/
def rdiv (a b : Int) : Int := if a < 0 then -((b - 2 * a) / (2 * b)) else (2 * a + b) / (2 * b)
theorem rdiv_split {a b : Int} (hb : 0 < b) (ha : 0 ≤ a) : rdiv a b = (2 * (a % b) + b) / (2 * b) + a / b := by
  unfold rdiv; rw [if_neg (by omega)]
  have e := Int.mul_ediv_add_emod a b
  rw [show 2 * a + b = (2 * (a % b) + b) + (2 * b) * (a / b) by rw [Int.mul_assoc]; omega, Int.add_mul_ediv_left _ _ (by omega)]
theorem rdiv_up {a b : Int} (hb : 0 < b) (ha : 0 ≤ a) (h : b - a % b ≤ a % b) : rdiv a b = a / b + 1 := by
  have hlt := Int.emod_lt_of_pos a hb
  rw [rdiv_split hb ha, show (2 * (a % b) + b) / (2 * b) = 1 by rw [Int.ediv_eq_iff_of_pos (by omega)]; omega]; omega
theorem rdiv_down {a b : Int} (hb : 0 < b) (ha : 0 ≤ a) (h : a % b < b - a % b) : rdiv a b = a / b := by
  have hlt := Int.emod_nonneg a (show b ≠ 0 by omega)
  rw [rdiv_split hb ha, show (2 * (a % b) + b) / (2 * b) = 0 from Int.ediv_eq_zero_of_lt (by omega) (by omega)]; omega
theorem rdiv_neg {a b : Int} (ha : a < 0) : rdiv a b = -rdiv (-a) b := by
  unfold rdiv; rw [if_pos ha, if_neg (by omega)]; congr 2; omega
theorem within_any (a b c : Int) (w : World) :
    Calls Try.prog 46 #[.int .i64 a, .int .i64 b, .int .i64 c] w fun e w' => e = .returned (.bool (inB a b c)) ∧ w' = w := by
  by_cases h1 : b ≤ a <;> by_cases h2 : a ≤ c
  all_goals
    have H : Hid (inB a b c = (decide (b ≤ a) && decide (a ≤ c))) := rfl
    go_enter Try.func46, Try.ntmps46
    go_wp2
    go_ret
    exact ⟨ret_bool (by rw [H.out]; simp [*]), rfl⟩
theorem l00In_any (a b c : Int) (w : World) :
    Calls Try.prog 44 #[.int .i64 a, .int .i64 b, .int .i64 c] w fun e w' => e = .returned (.bool (inB a b c)) ∧ w' = w := by
  by_cases h1 : b ≤ a <;> by_cases h2 : a ≤ c
  all_goals
    have H : Hid (inB a b c = (decide (b ≤ a) && decide (a ≤ c))) := rfl
    go_enter Try.func44, Try.ntmps44
    go_wp2
    go_ret
    exact ⟨ret_bool (by rw [H.out]; simp [*]), rfl⟩
def absI (a : Int) : Int := if a < 0 then -a else a
theorem absI_neg {a : Int} (h : a ≤ 0) : absI a = -a := by unfold absI; split <;> omega
theorem absI_pos {a : Int} (h : 0 ≤ a) : absI a = a := by unfold absI; split <;> omega
theorem abs_any (a : Int) (w : World) (h1 : -4611686018427387904 ≤ a) (h2 : a ≤ 4611686018427387904) :
    Calls Try.prog 41 #[.int .i64 a] w fun e w' => e = .returned (.int .i64 (absI a)) ∧ w' = w := by
  rcases Int.lt_or_le a 0 with h | h
  · have he : Hid (absI a = -a) := absI_neg (by omega)
    go_enter Try.func41, Try.ntmps41
    go_wp2
    go_ret
    exact ⟨ret_int (by rw [he.out]), rfl⟩
  · have he : Hid (absI a = a) := absI_pos h
    go_enter Try.func41, Try.ntmps41
    go_wp2
    all_goals go_ret
    all_goals exact ⟨ret_int (by rw [he.out]; try omega), rfl⟩
/-- The value on a line, for numbers that are not too large. -/
def lineI (x0 y0 x1 y1 x : Int) : Int := if x ≤ x0 ∨ x1 ≤ x0 then y0 else if x1 ≤ x then y1 else y0 + rdiv ((y1 - y0) * (x - x0)) (x1 - x0)
theorem rdiv_bd {a b : Int} (hb : 0 < b) : -(absI a) ≤ rdiv a b ∧ rdiv a b ≤ absI a := by
  have key : ∀ c : Int, 0 ≤ c → 0 ≤ rdiv c b ∧ rdiv c b ≤ c := fun c hc => by
    have h0 : 0 ≤ c / b := Int.ediv_nonneg hc (by omega)
    have hm0 := Int.emod_nonneg c (show b ≠ 0 by omega)
    have hm1 := Int.emod_lt_of_pos c hb
    have e := Int.mul_ediv_add_emod c b
    rcases Int.lt_or_le (c % b) (b - c % b) with h5 | h5
    · rw [rdiv_down hb hc h5]; exact ⟨h0, Int.ediv_le_self _ hc⟩
    · rw [rdiv_up hb hc h5]
      refine ⟨by omega, ?_⟩
      rcases Int.lt_or_le b 2 with h6 | h6
      · have : b = 1 := by omega
        subst this; omega
      · have h7 : c / b * 2 ≤ b * (c / b) := by rw [Int.mul_comm b]; exact Int.mul_le_mul_of_nonneg_left h6 h0
        rcases Int.lt_or_le (c / b) 1 with h8 | h8
        · have h9 : c / b = 0 := by omega
          rw [h9] at e ⊢; omega
        · omega
  rcases Int.lt_or_le a 0 with h | h
  · rw [rdiv_neg h, absI_neg (by omega)]; have := key (-a) (by omega); omega
  · rw [absI_pos h]; have := key a h; omega
end Go.Proofs.Ytdopffhekinbnaa

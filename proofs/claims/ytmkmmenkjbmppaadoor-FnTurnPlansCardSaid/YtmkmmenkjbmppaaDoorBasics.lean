/- Chapter 1 of the program and of the reference: bounds, names, division. What each function hands back, as a Lean function of its arguments; no call changes memory that was there. -/
import Derived.Test.YtmkmmenkjbmppaaDoorRows
import Derived.Test.YtmkmmenkjbmppaaDoorBase
namespace Go.Proofs.YtmkmmenkjbmppaaDoor
open Go.RowKit

def inB (a b c : Int) : Bool := decide (b ≤ a) && decide (a ≤ c)
theorem inB_iff {a b c : Int} : inB a b c = true ↔ b ≤ a ∧ a ≤ c := by simp [inB]
theorem inB_not {a b c : Int} (h : ¬ (b ≤ a ∧ a ≤ c)) : inB a b c = false := by rw [← Bool.not_eq_true, inB_iff]; exact h
def smallB (c : Int) : Bool := decide (97 ≤ c) && decide (c ≤ 122)
def digitB (c : Int) : Bool := decide (48 ≤ c) && decide (c ≤ 57)
def okByte (c : UInt8) : Bool := smallB c.toNat || digitB c.toNat
def bytesB (s : ByteArray) : Bool := s.data.toList.all okByte
def nameB (s : ByteArray) : Bool := decide (1 ≤ s.size) && decide (s.size ≤ 10) && smallB (s.data.toList.headD 0).toNat && bytesB s

theorem bytesB_iff (s : ByteArray) : bytesB s = true ↔ ∀ k, (h : k < s.size) → okByte s[k] = true := by
  unfold bytesB
  rw [List.all_eq_true]
  constructor
  · intro h k hk; exact h _ (by rw [show s[k] = s.data.toList[k] from rfl]; exact List.getElem_mem _)
  · intro h x hx
    obtain ⟨k, hk, rfl⟩ := List.getElem_of_mem hx
    exact h k (by simpa using hk)
theorem bytesB_true {s : ByteArray} (h : ∀ k, (h : k < s.size) → okByte s[k] = true) : true = bytesB s := ((bytesB_iff s).2 h).symm
theorem bytesB_false {s : ByteArray} (k : Nat) (hk : k < s.size) (h : okByte s[k] = false) : false = bytesB s := by
  symm; rw [← Bool.not_eq_true]; intro hb; have := (bytesB_iff s).1 hb k hk; rw [h] at this; cases this
theorem okByte_true {c : UInt8} (h : (97 ≤ (c.toNat : Int) ∧ (c.toNat : Int) ≤ 122) ∨ (48 ≤ (c.toNat : Int) ∧ (c.toNat : Int) ≤ 57)) : okByte c = true := by
  unfold okByte smallB digitB; simp only [Bool.or_eq_true, Bool.and_eq_true, decide_eq_true_eq]; exact h
theorem okByte_false {c : UInt8} (h : ¬ ((97 ≤ (c.toNat : Int) ∧ (c.toNat : Int) ≤ 122) ∨ (48 ≤ (c.toNat : Int) ∧ (c.toNat : Int) ≤ 57))) : okByte c = false := by
  rw [← Bool.not_eq_true]; unfold okByte smallB digitB; simp only [Bool.or_eq_true, Bool.and_eq_true, decide_eq_true_eq]; exact h
theorem headD_list (l : List UInt8) (h : 0 < l.length) : l.headD 0 = l[0] := by
  cases l with
  | nil => exact absurd h (Nat.lt_irrefl _)
  | cons a l => rfl
theorem headD_get (s : ByteArray) (h : 0 < s.size) : s.data.toList.headD 0 = s[0] := headD_list _ (by simpa using h)
theorem nameB_len0 {s : ByteArray} (h : (s.size : Int) < 1) : false = nameB s := by
  unfold nameB; rw [show decide (1 ≤ s.size) = false from decide_eq_false (by omega)]; simp
theorem nameB_len1 {s : ByteArray} (h : 10 < (s.size : Int)) : false = nameB s := by
  unfold nameB; rw [show decide (s.size ≤ 10) = false from decide_eq_false (by omega)]; simp
theorem nameB_first {s : ByteArray} (h0 : 0 < s.size) (h : ¬ (97 ≤ (s[0].toNat : Int) ∧ (s[0].toNat : Int) ≤ 122)) : false = nameB s := by
  unfold nameB; rw [headD_get s h0, show smallB s[0].toNat = false by rw [← Bool.not_eq_true]; unfold smallB; simp only [Bool.and_eq_true, decide_eq_true_eq]; exact h]; simp
theorem nameB_rest {s : ByteArray} (h0 : 0 < s.size) (h1 : (s.size : Int) ≤ 10) (h : 97 ≤ (s[0].toNat : Int) ∧ (s[0].toNat : Int) ≤ 122) : bytesB s = nameB s := by
  unfold nameB; rw [headD_get s h0, show smallB s[0].toNat = true by unfold smallB; simp only [Bool.and_eq_true, decide_eq_true_eq]; exact h,
    show decide (1 ≤ s.size) = true from decide_eq_true (by omega), show decide (s.size ≤ 10) = true from decide_eq_true (by omega)]; simp

/-- The nearest quotient by a positive number, halves away from 0. -/
def rdiv (a b : Int) : Int := if a < 0 then -((b - 2 * a) / (2 * b)) else (2 * a + b) / (2 * b)
theorem rdiv_split {a b : Int} (hb : 0 < b) (ha : 0 ≤ a) : rdiv a b = (2 * (a % b) + b) / (2 * b) + a / b := by
  unfold rdiv; rw [if_neg (by omega)]
  have e := Int.mul_ediv_add_emod a b
  rw [show 2 * a + b = (2 * (a % b) + b) + (2 * b) * (a / b) by rw [Int.mul_assoc]; omega, Int.add_mul_ediv_left _ _ (by omega)]
theorem rdiv_up {a b : Int} (hb : 0 < b) (ha : 0 ≤ a) (h : b - a % b ≤ a % b) : rdiv a b = a / b + 1 := by
  have hlt := Int.emod_lt_of_pos a hb
  rw [rdiv_split hb ha, show (2 * (a % b) + b) / (2 * b) = 1 by rw [Int.ediv_eq_iff_of_pos (by omega)]; omega]; omega
theorem rdiv_down {a b : Int} (hb : 0 < b) (ha : 0 ≤ a) (h : a % b < b - a % b) : rdiv a b = a / b := by
  have hlt := Int.emod_nonneg a (show b ≠ 0 by omega)
  rw [rdiv_split hb ha, show (2 * (a % b) + b) / (2 * b) = 0 from Int.ediv_eq_zero_of_lt (by omega) (by omega)]; omega
theorem rdiv_neg {a b : Int} (ha : a < 0) : rdiv a b = -rdiv (-a) b := by
  unfold rdiv; rw [if_pos ha, if_neg (by omega)]; congr 2; omega
theorem within_any (a b c : Int) (w : World) :
    Calls Tryd.prog 34 #[.int .i64 a, .int .i64 b, .int .i64 c] w fun e w' => e = .returned (.bool (inB a b c)) ∧ w' = w := by
  by_cases h1 : b ≤ a <;> by_cases h2 : a ≤ c
  all_goals
    have H : Hid (inB a b c = (decide (b ≤ a) && decide (a ≤ c))) := rfl
    go_enter Tryd.func34, Tryd.ntmps34
    go_wp2
    go_ret
    exact ⟨ret_bool (by rw [H.out]; simp [*]), rfl⟩
theorem l00In_any (a b c : Int) (w : World) :
    Calls Tryd.prog 50 #[.int .i64 a, .int .i64 b, .int .i64 c] w fun e w' => e = .returned (.bool (inB a b c)) ∧ w' = w := by
  by_cases h1 : b ≤ a <;> by_cases h2 : a ≤ c
  all_goals
    have H : Hid (inB a b c = (decide (b ≤ a) && decide (a ≤ c))) := rfl
    go_enter Tryd.func50, Tryd.ntmps50
    go_wp2
    go_ret
    exact ⟨ret_bool (by rw [H.out]; simp [*]), rfl⟩
set_option maxHeartbeats 400000 in
theorem onlyNameBytes_any (s : ByteArray) (w : World) (hs : s.size ≤ 1000000000000) :
    Calls Tryd.prog 68 #[.string s] w fun e w' => e = .returned (.bool (bytesB s)) ∧ w' = w := by
  go_enter Tryd.func68, Tryd.ntmps68
  go_wp2
  go_loop [7] (fun i => ∃ k : Nat, k ≤ s.size ∧ i = .int .i64 k ∧ Hid (∀ j, (h : j < s.size) → j < k → okByte s[j] = true)) (fun i => s.size - (intOf i).toNat)
  case atStart => exact ⟨0, Nat.zero_le _, rfl, fun j _ h => absurd h (Nat.not_lt_zero _)⟩
  case round =>
    obtain ⟨k, hk, rfl, hall⟩ := hrel
    by_cases hlt : k < s.size
    · have hnext : Hid (okByte s[k] = true → ∀ j, (h : j < s.size) → j < k + 1 → okByte s[j] = true) := fun h0 j hj h => by
        rcases Nat.lt_or_ge j k with h1 | h1
        · exact hall j hj h1
        · obtain rfl : j = k := by omega
          exact h0
      go_wp2
      all_goals first
        | (go_ret; exact ⟨ret_bool (bytesB_false k hlt (okByte_false (by omega))), rfl⟩)
        | (go_round
           case rel => exact ⟨k + 1, by omega, by go_num, hnext (okByte_true (by omega))⟩
           case measure => simp [intOf]; omega)
    · go_wp2
      go_ret
      exact ⟨ret_bool (bytesB_true fun j hj => hall j hj (by omega)), rfl⟩
set_option maxHeartbeats 400000 in
theorem IsName_any (s : ByteArray) (w : World) (hs : s.size ≤ 1000000000000) :
    Calls Tryd.prog 58 #[.string s] w fun e w' => e = .returned (.bool (nameB s)) ∧ w' = w := by
  go_enter Tryd.func58, Tryd.ntmps58
  go_wp2_with (go_at_call 68; refine (onlyNameBytes_any _ _ (by omega)).mono ?_; rintro e w' ⟨rfl, rfl⟩)
  all_goals
    go_ret
    first
      | exact ⟨ret_bool (nameB_len0 (by assumption)), rfl⟩
      | exact ⟨ret_bool (nameB_len1 (by assumption)), rfl⟩
      | exact ⟨ret_bool (nameB_first (by assumption) (by omega)), rfl⟩
      | exact ⟨ret_bool (nameB_rest (by assumption) (by omega) (by omega)), rfl⟩
theorem l01Small_any (c : Int) (w : World) :
    Calls Tryd.prog 71 #[.int .u8 c] w fun e w' => e = .returned (.bool (smallB c)) ∧ w' = w := by
  by_cases h2 : 97 ≤ c <;> by_cases h3 : c ≤ 122
  all_goals
    have H : Hid (smallB c = (decide (97 ≤ c) && decide (c ≤ 122))) := rfl
    go_enter Tryd.func71, Tryd.ntmps71
    go_wp2
    go_ret
    exact ⟨ret_bool (by rw [H.out]; simp [*]), rfl⟩
theorem l01Digit_any (c : Int) (w : World) :
    Calls Tryd.prog 72 #[.int .u8 c] w fun e w' => e = .returned (.bool (digitB c)) ∧ w' = w := by
  by_cases h2 : 48 ≤ c <;> by_cases h3 : c ≤ 57
  all_goals
    have H : Hid (digitB c = (decide (48 ≤ c) && decide (c ≤ 57))) := rfl
    go_enter Tryd.func72, Tryd.ntmps72
    go_wp2
    go_ret
    exact ⟨ret_bool (by rw [H.out]; simp [*]), rfl⟩
set_option maxHeartbeats 400000 in
theorem l01Name_any (s : ByteArray) (w : World) (hs : s.size ≤ 1000000000000) :
    Calls Tryd.prog 62 #[.string s] w fun e w' => e = .returned (.bool (nameB s)) ∧ w' = w := by
  rcases Nat.eq_zero_or_pos s.size with h0 | h0
  · have hn := sEq_empty h0
    have hf : Hid (false = nameB s) := nameB_len0 (s := s) (by omega)
    go_enter Tryd.func62, Tryd.ntmps62
    go_wp2
    go_ret
    exact ⟨ret_bool hf.out, rfl⟩
  have hn := sEq_nonempty h0
  cases h1 : smallB s[0].toNat
  · have hf : Hid (false = nameB s) := nameB_first h0 (by intro h; rw [show smallB s[0].toNat = true by unfold smallB; simp only [Bool.and_eq_true, decide_eq_true_eq]; exact h] at h1; cases h1)
    go_enter Tryd.func62, Tryd.ntmps62
    go_wp2_with (go_at_call 71; refine (l01Small_any _ _).mono ?_; rintro e w' ⟨rfl, rfl⟩)
    all_goals
      go_ret
      exact ⟨ret_bool hf.out, rfl⟩
  · by_cases h2 : s.size ≤ 10
    · have hb : Hid (bytesB s = nameB s) := nameB_rest h0 (by omega) (by unfold smallB at h1; simpa using h1)
      go_enter Tryd.func62, Tryd.ntmps62
      go_wp2_with (go_at_call 71; refine (l01Small_any _ _).mono ?_; rintro e w' ⟨rfl, rfl⟩)
      go_loop [3] (fun i => ∃ k : Nat, k ≤ s.size ∧ i = .int .i64 k ∧ Hid (∀ j, (h : j < s.size) → j < k → okByte s[j] = true)) (fun i => s.size - (intOf i).toNat)
      case atStart => exact ⟨0, Nat.zero_le _, rfl, fun j _ h => absurd h (Nat.not_lt_zero _)⟩
      case round =>
        obtain ⟨k, hk, rfl, hall⟩ := hrel
        by_cases hlt : k < s.size
        · have hnext : Hid (okByte s[k] = true → ∀ j, (h : j < s.size) → j < k + 1 → okByte s[j] = true) := fun h0 j hj h => by
            rcases Nat.lt_or_ge j k with h1 | h1
            · exact hall j hj h1
            · obtain rfl : j = k := by omega
              exact h0
          have hok : Hid (okByte s[k] = (smallB s[k].toNat || digitB s[k].toNat)) := rfl
          cases h3 : smallB s[k].toNat <;> cases h4 : digitB s[k].toNat
          all_goals
            go_wp2_with (first | (go_at_call 71; refine (l01Small_any _ _).mono ?_; rintro e w' ⟨rfl, rfl⟩) | (go_at_call 72; refine (l01Digit_any _ _).mono ?_; rintro e w' ⟨rfl, rfl⟩))
            first
              | (go_ret; exact ⟨ret_bool ((bytesB_false k hlt (by rw [hok.out, h3, h4]; rfl)).trans hb.out), rfl⟩)
              | (go_round
                 case rel => exact ⟨k + 1, by omega, by go_num, hnext (by rw [hok.out, h3, h4]; rfl)⟩
                 case measure => simp [intOf]; omega)
        · go_wp2
          go_ret
          exact ⟨ret_bool ((bytesB_true fun j hj => hall j hj (by omega)).trans hb.out), rfl⟩
    · have h3 : 10 < s.size := by omega
      have hf : Hid (false = nameB s) := nameB_len1 (s := s) (by omega)
      clear h2
      go_enter Tryd.func62, Tryd.ntmps62
      go_wp2_with (go_at_call 71; refine (l01Small_any _ _).mono ?_; rintro e w' ⟨rfl, rfl⟩)
      go_ret
      exact ⟨ret_bool hf.out, rfl⟩
def absI (a : Int) : Int := if a < 0 then -a else a
theorem absI_neg {a : Int} (h : a ≤ 0) : absI a = -a := by unfold absI; split <;> omega
theorem absI_pos {a : Int} (h : 0 ≤ a) : absI a = a := by unfold absI; split <;> omega
/-- The value on a line, for numbers that are not too large. -/
def lineI (x0 y0 x1 y1 x : Int) : Int := if x ≤ x0 ∨ x1 ≤ x0 then y0 else if x1 ≤ x then y1 else y0 + rdiv ((y1 - y0) * (x - x0)) (x1 - x0)
theorem rdiv_bd {a b : Int} (hb : 0 < b) : -(absI a) ≤ rdiv a b ∧ rdiv a b ≤ absI a := by
  have key : ∀ c : Int, 0 ≤ c → 0 ≤ rdiv c b ∧ rdiv c b ≤ c := fun c hc => by
    have h0 : 0 ≤ c / b := Int.ediv_nonneg hc (by omega)
    have hm0 := Int.emod_nonneg c (show b ≠ 0 by omega)
    have hm1 := Int.emod_lt_of_pos c hb
    have e := Int.mul_ediv_add_emod c b
    rcases Int.lt_or_le (c % b) (b - c % b) with h5 | h5
    · rw [rdiv_down hb hc h5]; exact ⟨h0, Int.ediv_le_self _ hc⟩
    · rw [rdiv_up hb hc h5]
      refine ⟨by omega, ?_⟩
      rcases Int.lt_or_le b 2 with h6 | h6
      · have : b = 1 := by omega
        subst this; omega
      · have h7 : c / b * 2 ≤ b * (c / b) := by rw [Int.mul_comm b]; exact Int.mul_le_mul_of_nonneg_left h6 h0
        rcases Int.lt_or_le (c / b) 1 with h8 | h8
        · have h9 : c / b = 0 := by omega
          rw [h9] at e ⊢; omega
        · omega
  rcases Int.lt_or_le a 0 with h | h
  · rw [rdiv_neg h, absI_neg (by omega)]; have := key (-a) (by omega); omega
  · rw [absI_pos h]; have := key a h; omega
end Go.Proofs.YtmkmmenkjbmppaaDoor

/- Texts read back: numbers in decimal, pieces between separators. Plain Lean, no program in sight; no conditions. -/
import Derived.Lib.Split
import Derived.Lib.ParseIntBCases
import Derived.Lib.ItoaMem
import Derived.Lib.Strings
import Derived.Lib.JoinFns
import Derived.Laws.Strings
namespace Go.Proofs.YtfiiaegfikocoaaDoor
open Go.RowKit
/-! ### Numbers -/
def isD (c : UInt8) : Bool := decide (48 ≤ c.toNat) && decide (c.toNat ≤ 57)
theorem isD_iff {c : UInt8} : isD c = true ↔ 48 ≤ c.toNat ∧ c.toNat ≤ 57 := by simp [isD]
/-- The number that digits spell, behind a. -/
def numD (a : Nat) : List UInt8 → Nat
  | [] => a
  | c :: r => numD (10 * a + (c.toNat - 48)) r
theorem numD_append (l : List UInt8) : ∀ (a : Nat) (m : List UInt8), numD a (l ++ m) = numD (numD a l) m := by
  induction l with
  | nil => intro a m; rfl
  | cons c r ih => intro a m; exact ih _ m
theorem numD_snoc (l : List UInt8) (a : Nat) (c : UInt8) : numD a (l ++ [c]) = 10 * numD a l + (c.toNat - 48) := by rw [numD_append]; rfl
theorem numD_ge (l : List UInt8) : ∀ a : Nat, a ≤ numD a l := by
  induction l with
  | nil => intro a; exact Nat.le_refl _
  | cons c r ih => intro a; exact Nat.le_trans (by omega) (ih (10 * a + (c.toNat - 48)))
theorem numD_lt (l : List UInt8) (h : ∀ c ∈ l, isD c = true) : ∀ (a : Nat), numD a l < (a + 1) * 10 ^ l.length := by
  induction l with
  | nil => intro a; show a < (a + 1) * 1; omega
  | cons c r ih =>
    intro a
    have hc := isD_iff.1 (h c (List.mem_cons_self ..))
    have h1 := ih (fun x hx => h x (List.mem_cons_of_mem _ hx)) (10 * a + (c.toNat - 48))
    have h2 : (10 * a + (c.toNat - 48) + 1) * 10 ^ r.length ≤ (a + 1) * 10 * 10 ^ r.length := Nat.mul_le_mul_right _ (by omega)
    have h3 : (a + 1) * 10 ^ (c :: r).length = (a + 1) * 10 * 10 ^ r.length := by
      rw [List.length_cons, Nat.pow_succ, Nat.mul_comm (10 ^ r.length) 10, Nat.mul_assoc]
    rw [h3]
    exact Nat.lt_of_lt_of_le h1 h2
theorem decDigits_digits (n : Nat) : ∀ c ∈ Lib.decDigits n, isD c = true := by
  rw [Lib.decDigits]
  split
  · intro c hc
    simp only [List.mem_singleton] at hc
    subst hc
    rw [isD_iff, UInt8.toNat_ofNat']; omega
  · intro c hc
    rw [List.mem_append, List.mem_singleton] at hc
    rcases hc with hc | rfl
    · exact decDigits_digits (n / 10) c hc
    · rw [isD_iff, UInt8.toNat_ofNat']; omega
termination_by n
theorem numD_decDigits (n : Nat) : numD 0 (Lib.decDigits n) = n := by
  rw [Lib.decDigits]
  split
  · show 10 * 0 + ((UInt8.ofNat (48 + n)).toNat - 48) = n
    rw [UInt8.toNat_ofNat']; omega
  · rw [numD_snoc, numD_decDigits (n / 10), UInt8.toNat_ofNat']; omega
termination_by n
theorem decDigits_nonnil (n : Nat) : Lib.decDigits n ≠ [] := by
  rw [Lib.decDigits]; split <;> simp
theorem decDigits_head (n : Nat) (h : 0 < n) : (Lib.decDigits n).head? ≠ some 48 := by
  rw [Lib.decDigits]
  split
  · simp only [List.head?_cons, ne_eq, Option.some.injEq]
    intro e
    have := congrArg UInt8.toNat e
    rw [UInt8.toNat_ofNat'] at this
    have h48 : (48 : UInt8).toNat = 48 := rfl
    omega
  · have ih := decDigits_head (n / 10) (by omega)
    cases e : Lib.decDigits (n / 10) with
    | nil => exact absurd e (decDigits_nonnil _)
    | cons c r => rw [e] at ih; exact ih
termination_by n
/-- Digits without a needless 0 ahead are the decimal form of what they spell. -/
theorem decDigits_numD : ∀ (k : Nat) (l : List UInt8), l.length = k → l ≠ [] → (∀ c ∈ l, isD c = true) → (l.head? = some 48 → l.length = 1) → Lib.decDigits (numD 0 l) = l
  | 0, l, hk, hn, _, _ => absurd (List.length_eq_zero_iff.1 hk) hn
  | k + 1, l, hk, hn, hd, hz => by
    obtain ⟨l', c, rfl⟩ : ∃ l' c, l = l' ++ [c] := ⟨l.dropLast, l.getLast hn, (List.dropLast_concat_getLast hn).symm⟩
    have hc := isD_iff.1 (hd c (by simp))
    have hcc : UInt8.ofNat c.toNat = c := by simp
    rw [numD_snoc]
    by_cases h' : l' = []
    · subst h'
      rw [Lib.decDigits, dif_pos (by show 10 * 0 + _ < 10; omega)]
      show [UInt8.ofNat (48 + (10 * 0 + (c.toNat - 48)))] = [c]
      rw [show 48 + (10 * 0 + (c.toNat - 48)) = c.toNat by omega, hcc]
    · have hlen : (l' ++ [c]).length = l'.length + 1 := by simp
      have hl0 : 0 < l'.length := List.length_pos_iff.2 h'
      have hh : l'.head? ≠ some 48 := fun e => by
        have := hz (by rw [List.head?_append, e]; rfl)
        omega
      have ih := decDigits_numD k l' (by omega) h' (fun x hx => hd x (List.mem_append_left _ hx)) (fun e => absurd e hh)
      have hpos : 0 < numD 0 l' := by
        cases l' with
        | nil => exact absurd rfl h'
        | cons b r =>
          have hb := isD_iff.1 (hd b (by simp))
          have hb48 : b.toNat ≠ 48 := fun e => hh (by rw [List.head?_cons]; congr 1; exact UInt8.toNat_inj.1 e)
          exact Nat.lt_of_lt_of_le (by omega) (numD_ge r (10 * 0 + (b.toNat - 48)))
      rw [Lib.decDigits, dif_neg (by omega), show (10 * numD 0 l' + (c.toNat - 48)) / 10 = numD 0 l' by omega, ih, show 48 + (10 * numD 0 l' + (c.toNat - 48)) % 10 = c.toNat by omega, hcc]
theorem decDigits_len18 {n : Nat} (h : n < 1000000000000000000) : (Lib.decDigits n).length ≤ 18 := by
  rw [Lib.decDigits_length]
  rcases Nat.lt_or_ge 18 (Lib.nDigits n) with h1 | h1
  · exfalso
    obtain ⟨k, hk⟩ : ∃ k, Lib.nDigits n = k + 1 := ⟨Lib.nDigits n - 1, by omega⟩
    have hle : 10 ^ k ≤ n := by
      rcases Nat.lt_or_ge n (10 ^ k) with h2 | h2
      · exfalso
        have := nDigits_le_of_lt n k h2 (by omega)
        omega
      · exact h2
    have : 10 ^ 18 ≤ 10 ^ k := Nat.pow_le_pow_right (by decide) (by omega)
    have e18 : (10 : Nat) ^ 18 = 1000000000000000000 := by decide
    omega
  · exact h1
where
  nDigits_le_of_lt (n k : Nat) (h : n < 10 ^ k) (hk : 1 ≤ k) : Lib.nDigits n ≤ k := by
    induction k generalizing n with
    | zero => omega
    | succ k ih =>
      by_cases h10 : n < 10
      · rw [Lib.nDigits_small h10]; omega
      · rw [Lib.nDigits_big h10]
        have hk1 : 1 ≤ k := by
          rcases Nat.eq_zero_or_pos k with rfl | h'
          · simp at h; omega
          · exact h'
        have := ih (n / 10) (by rw [Nat.pow_succ] at h; omega) hk1
        omega
/-- The number that a text is the decimal form of, of at most 18 digits. -/
def magP (r : List UInt8) (long : Bool) : Option Nat :=
  if r = [] ∨ 18 < r.length ∨ (r.head? = some 48 ∧ long = true) then none else if r.all isD = true then some (numD 0 r) else none
def numP (l : List UInt8) : Option Int :=
  match l with
  | [] => none
  | c :: r => if c = 45 then (magP r true).map (fun (m : Nat) => -(m : Int)) else (magP l (decide (1 < l.length))).map (fun (m : Nat) => (m : Int))
theorem magP_some {r : List UInt8} {b : Bool} {m : Nat} (hb : r.length ≠ 1 → b = true) (h : magP r b = some m) : Lib.decDigits m = r ∧ m < 1000000000000000000 ∧ (b = true → m ≠ 0) := by
  unfold magP at h
  split at h
  · cases h
  · rename_i h1
    split at h
    · rename_i h2
      simp only [Option.some.injEq] at h
      subst h
      rw [List.all_eq_true] at h2
      have hn : r ≠ [] := fun e => h1 (.inl e)
      have hz : r.head? = some 48 → r.length = 1 := fun e => by
        rcases Nat.decEq r.length 1 with h3 | h3
        · exact absurd (.inr (.inr ⟨e, hb h3⟩)) h1
        · exact h3
      have hd := decDigits_numD r.length r rfl hn h2 hz
      refine ⟨hd, ?_, fun hb' h0 => ?_⟩
      · have h3 := numD_lt r h2 0
        have h4 : 10 ^ r.length ≤ 10 ^ 18 := Nat.pow_le_pow_right (by decide) (by have : ¬ 18 < r.length := fun e => h1 (.inr (.inl e)); omega)
        have e18 : (10 : Nat) ^ 18 = 1000000000000000000 := by decide
        omega
      · rw [h0] at hd
        have : Lib.decDigits 0 = [48] := by rw [Lib.decDigits, dif_pos (by decide)]; rfl
        rw [this] at hd
        exact h1 (.inr (.inr ⟨by rw [← hd]; rfl, hb'⟩))
    · cases h
theorem magP_mk {m : Nat} {b : Bool} (h : m < 1000000000000000000) (hb : b = true → m ≠ 0 ) : magP (Lib.decDigits m) b = some m := by
  unfold magP
  rw [if_neg, if_pos (List.all_eq_true.2 (decDigits_digits m)), numD_decDigits]
  rintro (h1 | h1 | ⟨h1, h2⟩)
  · exact decDigits_nonnil m h1
  · have := decDigits_len18 h; omega
  · exact decDigits_head m (Nat.pos_of_ne_zero (hb h2)) h1
theorem decDigits_head45 (m : Nat) : ∃ c r, Lib.decDigits m = c :: r ∧ c ≠ 45 ∧ isD c = true := by
  cases h : Lib.decDigits m with
  | nil => exact absurd h (decDigits_nonnil m)
  | cons c r =>
    have := decDigits_digits m c (by rw [h]; exact List.mem_cons_self ..)
    refine ⟨c, r, rfl, fun e => ?_, this⟩
    subst e
    exact absurd this (by decide)
theorem numP_iff {l : List UInt8} {n : Int} : numP l = some n ↔ Lib.itoa n = l ∧ -1000000000000000000 < n ∧ n < 1000000000000000000 := by
  constructor
  · intro h
    cases l with
    | nil => cases h
    | cons c r =>
      simp only [numP] at h
      split at h
      · rename_i hc
        subst hc
        rw [Option.map_eq_some_iff] at h
        obtain ⟨m, hm, rfl⟩ := h
        obtain ⟨h1, h2, h3⟩ := magP_some (fun _ => rfl) hm
        have := h3 rfl
        exact ⟨by rw [Lib.itoa_neg m (by omega), h1], by omega, by omega⟩
      · rw [Option.map_eq_some_iff] at h
        obtain ⟨m, hm, rfl⟩ := h
        obtain ⟨h1, h2, h3⟩ := magP_some (fun e => decide_eq_true (by simp only [List.length_cons] at e ⊢; omega)) hm
        exact ⟨by rw [Lib.itoa_nonneg m, h1], by omega, by omega⟩
  · rintro ⟨rfl, h1, h2⟩
    rcases Int.lt_or_le n 0 with h | h
    · obtain ⟨m, rfl⟩ : ∃ m : Nat, n = -(m : Int) := ⟨n.natAbs, by omega⟩
      rw [Lib.itoa_neg m (by omega)]
      simp only [numP, if_true]
      rw [magP_mk (by omega) (fun _ => by omega)]; rfl
    · obtain ⟨m, rfl⟩ := Int.eq_ofNat_of_zero_le h
      rw [Lib.itoa_nonneg m]
      obtain ⟨c, r, e, hc, hd⟩ := decDigits_head45 m
      have hx : magP (Lib.decDigits m) (decide (1 < (Lib.decDigits m).length)) = some m := magP_mk (by omega) (fun hb h0 => by
        subst h0
        have : Lib.decDigits 0 = [48] := by rw [Lib.decDigits, dif_pos (by decide)]; rfl
        rw [this] at hb; exact absurd hb (by decide))
      rw [e] at hx ⊢
      simp only [numP]
      rw [if_neg hc, hx]; rfl
theorem numP_itoa {n : Int} (h1 : -1000000000000000000 < n) (h2 : n < 1000000000000000000) : numP (Lib.itoa n) = some n := numP_iff.2 ⟨rfl, h1, h2⟩
/-! ### How Go's strconv reads it -/
theorem parseUintM_ok {M : Nat} (hM : 1000000000000000000 ≤ M) : ∀ (l : List UInt8) (a : Nat), (∀ c ∈ l, isD c = true) → numD a l < 1000000000000000000 → Lib.parseUintM M a l = .ok (numD a l)
  | [], a, _, _ => rfl
  | c :: r, a, hd, hn => by
    have hc := isD_iff.1 (hd c (List.mem_cons_self ..))
    have hge := numD_ge r (10 * a + (c.toNat - 48))
    have hn' : numD (10 * a + (c.toNat - 48)) r < 1000000000000000000 := hn
    rw [Lib.parseUintM, if_pos hc, if_neg (by omega), if_neg (by omega), Nat.mul_comm a 10]
    exact parseUintM_ok hM r _ (fun x hx => hd x (List.mem_cons_of_mem _ hx)) hn'
theorem parseIntB_itoa {n : Int} (h1 : -1000000000000000000 < n) (h2 : n < 1000000000000000000) : Lib.parseIntB 64 (Lib.itoa n) = .ok n := by
  have e64 : (2 : Nat) ^ 64 - 1 = 18446744073709551615 := by decide
  have e63 : (2 : Nat) ^ (64 - 1) = 9223372036854775808 := by decide
  have key : ∀ m : Nat, m < 1000000000000000000 → Lib.parseUintB 64 (Lib.decDigits m) = .ok m := fun m hm => by
    unfold Lib.parseUintB
    rw [if_neg (decDigits_nonnil m), e64, parseUintM_ok (by omega) _ _ (decDigits_digits m) (by rw [numD_decDigits]; exact hm), numD_decDigits]
  rcases Int.lt_or_le n 0 with h | h
  · obtain ⟨m, rfl⟩ : ∃ m : Nat, n = -(m : Int) := ⟨n.natAbs, by omega⟩
    rw [Lib.itoa_neg m (by omega), Lib.parseIntB_minus, key m (by omega), e63]
    show (if _ then _ else _) = _
    rw [if_neg (by omega)]
  · obtain ⟨m, rfl⟩ := Int.eq_ofNat_of_zero_le h
    rw [Lib.itoa_nonneg m]
    obtain ⟨c, r, e, hc, hd⟩ := decDigits_head45 m
    have hk := key m (by omega)
    rw [e] at hk ⊢
    have := isD_iff.1 hd
    rw [Lib.parseIntB_plain 64 c r (by omega) (by omega), hk, e63]
    show (if _ then _ else _) = _
    rw [if_neg (by omega)]
/-- The digits behind a sign. -/
def bare (l : List UInt8) : Nat := (Lib.trimPrefix l [45]).length
theorem bare_itoa {n : Int} : bare (Lib.itoa n) ≤ 18 ↔ -1000000000000000000 < n ∧ n < 1000000000000000000 := by
  have key : ∀ m : Nat, (Lib.decDigits m).length ≤ 18 ↔ m < 1000000000000000000 := fun m => by
    constructor
    · intro h
      have h3 := numD_lt _ (decDigits_digits m) 0
      rw [numD_decDigits] at h3
      have h4 : 10 ^ (Lib.decDigits m).length ≤ 10 ^ 18 := Nat.pow_le_pow_right (by decide) h
      have e18 : (10 : Nat) ^ 18 = 1000000000000000000 := by decide
      omega
    · exact decDigits_len18
  unfold bare
  rcases Int.lt_or_le n 0 with h | h
  · obtain ⟨m, rfl⟩ : ∃ m : Nat, n = -(m : Int) := ⟨n.natAbs, by omega⟩
    rw [Lib.itoa_neg m (by omega)]
    have : Lib.trimPrefix (45 :: Lib.decDigits m) [45] = Lib.decDigits m := by simp [Lib.trimPrefix, Lib.hasPrefix, List.isPrefixOf]
    rw [this, key]; omega
  · obtain ⟨m, rfl⟩ := Int.eq_ofNat_of_zero_le h
    rw [Lib.itoa_nonneg m]
    obtain ⟨c, r, e, hc, hd⟩ := decDigits_head45 m
    have : Lib.trimPrefix (Lib.decDigits m) [45] = Lib.decDigits m := by
      rw [e]; unfold Lib.trimPrefix Lib.hasPrefix
      rw [if_neg]; simp [List.isPrefixOf, Ne.symm hc]
    rw [this, key]; omega
/-- What the program does behind its parse is the same. -/
theorem numP_ok {l : List UInt8} {n : Int} (h : Lib.parseIntB 64 l = .ok n) : numP l = if bare l ≤ 18 ∧ Lib.itoa n = l then some n else none := by
  split
  · rename_i h1
    obtain ⟨h1, rfl⟩ := h1
    have := bare_itoa.1 h1
    exact numP_itoa this.1 this.2
  · rename_i h1
    cases h2 : numP l with
    | none => rfl
    | some m =>
      exfalso
      obtain ⟨rfl, h3, h4⟩ := numP_iff.1 h2
      rw [parseIntB_itoa h3 h4] at h
      simp only [Lib.NumEnd.ok.injEq] at h
      subst h
      exact h1 ⟨bare_itoa.2 ⟨h3, h4⟩, rfl⟩
theorem numP_bad {l : List UInt8} (h : ∀ n, Lib.parseIntB 64 l ≠ .ok n) : numP l = none := by
  cases h2 : numP l with
  | none => rfl
  | some m =>
    exfalso
    obtain ⟨rfl, h3, h4⟩ := numP_iff.1 h2
    exact h _ (parseIntB_itoa h3 h4)
end Go.Proofs.YtfiiaegfikocoaaDoor

/- Chapter 28: the days within which most incidents lie: plain Lean. -/
import Derived.Test.YtndkcgiadpdcjaaIncL
namespace Go.Proofs.Ytndkcgiadpdcjaa
open Go.RowKit
/-- How many of the m incidents from the i-th on lie within d days of it. -/
def cntG (l : List Incident) (d : Int) (i : Nat) : Nat → Nat
  | 0 => 0
  | m + 1 => cntG l d i m + (if (nth l (i + m)).day < (nth l i).day + d then 1 else 0)
/-- How many of the first m incidents lie from s on within d days. -/
def ownG (l : List Incident) (s d : Int) : Nat → Nat
  | 0 => 0
  | m + 1 => ownG l s d m + (if s ≤ (nth l m).day ∧ (nth l m).day < s + d then 1 else 0)
def cntI (l : List Incident) (d : Int) (i : Nat) : Nat := cntG l d i (l.length - i)
/-- The greatest number and its day behind i rounds. -/
def withI (l : List Incident) (d : Int) : Nat → Nat × Int
  | 0 => (0, 0)
  | i + 1 => if (withI l d i).1 < cntI l d i then (cntI l d i, (nth l i).day) else withI l d i
def DaysUp (l : List Incident) : Prop := ∀ i j, i ≤ j → j < l.length → (nth l i).day ≤ (nth l j).day
theorem daysUp {l : List Incident} (h : incidentList l = true) : DaysUp l := fun i j hij hj => by
  rcases Nat.lt_or_ge i j with h1 | h1
  · have := inc_sorted (show vAll incidentB incB 48 l = true from h) i j h1 hj
    unfold incB at this
    by_cases e : (nth l i).day = (nth l j).day
    · omega
    · rw [if_neg e] at this
      simp only [decide_eq_true_eq] at this
      omega
  · obtain rfl : i = j := by omega
    exact Int.le_refl _
theorem cntG_le (l : List Incident) (d : Int) (i : Nat) : ∀ m, cntG l d i m ≤ m
  | 0 => Nat.le_refl _
  | m + 1 => by
    have := cntG_le l d i m
    show cntG l d i m + _ ≤ m + 1
    split <;> omega
theorem cntG_mono {l : List Incident} {d e : Int} (h : d ≤ e) (i : Nat) : ∀ m, cntG l d i m ≤ cntG l e i m
  | 0 => Nat.le_refl _
  | m + 1 => by
    have := cntG_mono (l := l) h i m
    show cntG l d i m + _ ≤ cntG l e i m + _
    split <;> split <;> omega
theorem cntG_pos {l : List Incident} {d : Int} (h : 0 < d) (i : Nat) : ∀ m, 0 < m → 0 < cntG l d i m
  | 0, h0 => absurd h0 (Nat.lt_irrefl _)
  | 1, _ => by
    show 0 < 0 + (if (nth l (i + 0)).day < (nth l i).day + d then 1 else 0)
    rw [if_pos (by rw [Nat.add_zero]; omega)]; omega
  | m + 2, _ => by
    have := cntG_pos (l := l) h i (m + 1) (by omega)
    show 0 < cntG l d i (m + 1) + _
    omega
theorem cnt_own {l : List Incident} (hu : DaysUp l) (d : Int) (i : Nat) : ∀ m, i + m ≤ l.length → cntG l d i m ≤ ownG l (nth l i).day d (i + m)
  | 0, _ => Nat.zero_le _
  | m + 1, h => by
    have h1 := cnt_own hu d i m (by omega)
    have h2 := hu i (i + m) (by omega) (by omega)
    show cntG l d i m + (if (nth l (i + m)).day < (nth l i).day + d then 1 else 0) ≤ ownG l (nth l i).day d (i + m) + (if (nth l i).day ≤ (nth l (i + m)).day ∧ (nth l (i + m)).day < (nth l i).day + d then 1 else 0)
    split
    · rename_i h3
      rw [if_pos ⟨h2, h3⟩]; omega
    · omega
theorem own_zero {l : List Incident} {s d : Int} : ∀ n, (∀ k, k < n → (nth l k).day < s) → ownG l s d n = 0
  | 0, _ => rfl
  | n + 1, h => by
    show ownG l s d n + _ = 0
    rw [own_zero n (fun k hk => h k (by omega)), if_neg (fun h2 => by have := h n (by omega); omega)]
theorem own_cnt {l : List Incident} {d : Int} {i : Nat} (hu : DaysUp l) (h0 : ∀ k, k < i → (nth l k).day < (nth l i).day) : ∀ m, i + m ≤ l.length → ownG l (nth l i).day d (i + m) = cntG l d i m
  | 0, _ => own_zero i h0
  | m + 1, h => by
    have h1 := own_cnt (d := d) hu h0 m (by omega)
    have h2 := hu i (i + m) (by omega) (by omega)
    show ownG l (nth l i).day d (i + m) + (if (nth l i).day ≤ (nth l (i + m)).day ∧ (nth l (i + m)).day < (nth l i).day + d then 1 else 0) = cntG l d i m + (if (nth l (i + m)).day < (nth l i).day + d then 1 else 0)
    rw [h1]
    by_cases h3 : (nth l (i + m)).day < (nth l i).day + d
    · rw [if_pos ⟨h2, h3⟩, if_pos h3]
    · rw [if_neg (fun h4 => h3 h4.2), if_neg h3]
/-- The first incident of its day. -/
theorem first_of {l : List Incident} (hu : DaysUp l) (s : Int) : ∀ b, b < l.length → (nth l b).day = s → ∃ i, i < l.length ∧ (nth l i).day = s ∧ ∀ k, k < i → (nth l k).day < s
  | 0, h, e => ⟨0, h, e, fun k hk => absurd hk (Nat.not_lt_zero k)⟩
  | b + 1, h, e => by
    by_cases h1 : (nth l b).day = s
    · exact first_of hu s b (by omega) h1
    · refine ⟨b + 1, h, e, fun k hk => ?_⟩
      have h2 := hu b (b + 1) (by omega) h
      have h3 := hu k b (by omega) (by omega)
      omega
theorem withI_max (l : List Incident) (d : Int) : ∀ n i, i < n → cntI l d i ≤ (withI l d n).1
  | 0, _, h => absurd h (Nat.not_lt_zero _)
  | n + 1, i, h => by
    show _ ≤ (if (withI l d n).1 < cntI l d n then (cntI l d n, (nth l n).day) else withI l d n).1
    rcases Nat.lt_or_ge i n with h1 | h1
    · have := withI_max l d n i h1
      split <;> (try dsimp only) <;> omega
    · obtain rfl : i = n := by omega
      split <;> (try dsimp only) <;> omega
theorem withI_from (l : List Incident) (d : Int) : ∀ n, (withI l d n).1 = 0 ∨ ∃ b, b < n ∧ (withI l d n).1 = cntI l d b ∧ (withI l d n).2 = (nth l b).day
  | 0 => .inl rfl
  | n + 1 => by
    show (if (withI l d n).1 < cntI l d n then (cntI l d n, (nth l n).day) else withI l d n).1 = 0 ∨ ∃ b, b < n + 1 ∧ (if (withI l d n).1 < cntI l d n then (cntI l d n, (nth l n).day) else withI l d n).1 = cntI l d b ∧ (if (withI l d n).1 < cntI l d n then (cntI l d n, (nth l n).day) else withI l d n).2 = (nth l b).day
    split
    · exact .inr ⟨n, by omega, rfl, rfl⟩
    · rcases withI_from l d n with h | ⟨b, hb, h1, h2⟩
      · exact .inl h
      · exact .inr ⟨b, by omega, h1, h2⟩
/-- What the law asks of the days within which most incidents lie. -/
theorem within_law {l : List Incident} (h : incidentList l = true) (hl : 0 < l.length) {d : Int} (h1 : 1 ≤ d) (h2 : d ≤ 1000) :
    1 ≤ (withI l d l.length).1 ∧ ownG l (withI l d l.length).2 d l.length = (withI l d l.length).1 ∧ (withI l d l.length).1 ≤ (withI l 1000 l.length).1 ∧ (withI l 1000 l.length).1 ≤ l.length := by
  have hu := daysUp h
  have hpos : 1 ≤ (withI l d l.length).1 := Nat.le_trans (cntG_pos (by omega) 0 (l.length - 0) (by omega)) (withI_max l d l.length 0 hl)
  rcases withI_from l d l.length with h0 | ⟨b, hb, e1, e2⟩
  · omega
  refine ⟨hpos, ?_, ?_, ?_⟩
  · obtain ⟨i, hi, e3, hlo⟩ := first_of hu _ b hb e2.symm
    have h3 := own_cnt (d := d) hu (fun k hk => by rw [e3]; exact hlo k hk) (l.length - i) (by omega)
    have h4 := withI_max l d l.length i hi
    have h5 := cnt_own hu d b (l.length - b) (by omega)
    rw [show i + (l.length - i) = l.length by omega, e3] at h3
    rw [show b + (l.length - b) = l.length by omega, ← e2] at h5
    have e6 : cntI l d i = cntG l d i (l.length - i) := rfl
    have e7 : cntI l d b = cntG l d b (l.length - b) := rfl
    omega
  · rw [e1]
    exact Nat.le_trans (cntG_mono h2 b _) (withI_max l 1000 l.length b hb)
  · rcases withI_from l 1000 l.length with h0 | ⟨q, hq, e3, -⟩
    · omega
    · rw [e3]
      exact Nat.le_trans (cntG_le l 1000 q _) (by omega)
end Go.Proofs.Ytndkcgiadpdcjaa

/- Chapter 28: CalmDays of the program: calm days lie within the days asked and have no incident. -/
import Derived.Test.YtndkcgiadpdcjaaCalmD
namespace Go.Proofs.Ytndkcgiadpdcjaa
open Go.RowKit
def CalmOut (l : List Incident) (fr un : Int) (w : World) (e : Ending) (w' : World) : Prop := ∃ p q c : Int, e = .returned (.tuple #[.int .i64 p, .int .i64 q, .int .i64 c]) ∧ (c = 0 → 1 ≤ q ∧ fr ≤ p ∧ p + q - 1 ≤ un ∧ ∀ j, j < l.length → ¬ (p ≤ (nth l j).day ∧ (nth l j).day < p + q)) ∧ Ext w w'
/-- Behind k incidents: the best gap so far is free; what went before lies before the start. -/
structure CalmInv (l : List Incident) (fr un : Int) (k : Nat) (b m s : Int) : Prop where
  s0 : fr ≤ s
  s1 : s ≤ un + 1
  m0 : 0 ≤ m
  past : ∀ j, j < k → (nth l j).day < s ∨ un < (nth l j).day
  free : 0 < m → fr ≤ b ∧ b + m - 1 ≤ un ∧ ∀ j, j < l.length → ¬ (b ≤ (nth l j).day ∧ (nth l j).day < b + m)
theorem CalmInv.skip {l : List Incident} {fr un : Int} {k : Nat} {b m s : Int} (h : CalmInv l fr un k b m s) (hd : ¬ (s ≤ (nth l k).day ∧ (nth l k).day ≤ un)) : CalmInv l fr un (k + 1) b m s := by
  refine ⟨h.s0, h.s1, h.m0, fun j hj => ?_, h.free⟩
  rcases Nat.lt_or_ge j k with h1 | h1
  · exact h.past j h1
  · obtain rfl : j = k := by omega
    omega
theorem CalmInv.step {l : List Incident} {fr un : Int} {k : Nat} {b m s b' m' : Int} (h : CalmInv l fr un k b m s) (hu : DaysUp l) (hk : k < l.length) (h1 : fr ≤ (nth l k).day) (h2 : (nth l k).day ≤ un) (hr : b' = b ∧ m' = m ∨ b' = s ∧ m' = (nth l k).day - s ∧ m < (nth l k).day - s) : CalmInv l fr un (k + 1) b' m' ((nth l k).day + 1) where
  s0 := by omega
  s1 := by omega
  m0 := by have := h.m0; rcases hr with ⟨-, rfl⟩ | ⟨-, rfl, h3⟩ <;> omega
  past := fun j hj => .inl (by have := hu j k (by omega) hk; omega)
  free := fun hm => by
    rcases hr with ⟨rfl, rfl⟩ | ⟨rfl, rfl, h3⟩
    · exact h.free hm
    · refine ⟨h.s0, by omega, fun j hj hc => ?_⟩
      rcases Nat.lt_or_ge j k with h5 | h5
      · rcases h.past j h5 with h6 | h6 <;> omega
      · have := hu k j h5 hj
        omega
theorem CalmInv.last {l : List Incident} {fr un : Int} {b m s b' m' : Int} (h : CalmInv l fr un l.length b m s) (hr : b' = b ∧ m' = m ∨ b' = s ∧ m' = un + 1 - s ∧ m < un + 1 - s) (hm : m' ≠ 0) : 1 ≤ m' ∧ fr ≤ b' ∧ b' + m' - 1 ≤ un ∧ ∀ j, j < l.length → ¬ (b' ≤ (nth l j).day ∧ (nth l j).day < b' + m') := by
  have h0 := h.m0
  rcases hr with ⟨rfl, rfl⟩ | ⟨rfl, rfl, h3⟩
  · have := h.free (by omega)
    exact ⟨by omega, this⟩
  · refine ⟨by omega, h.s0, by omega, fun j hj hc => ?_⟩
    rcases h.past j hj with h6 | h6 <;> omega
end Go.Proofs.Ytndkcgiadpdcjaa

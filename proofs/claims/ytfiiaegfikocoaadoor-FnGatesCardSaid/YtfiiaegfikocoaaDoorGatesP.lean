/- A gate hour by hour: what a step keeps, when it shuts and opens, the first hour at which it is shut. Plain Lean (for FnGates). -/
import Derived.Test.YtfiiaegfikocoaaDoorHoldP
namespace Go.Proofs.YtfiiaegfikocoaaDoor
open Go.RowKit
theorem stepG_keeps (x : Gate) (z : Int) : (stepG x z).id = x.id ∧ (stepG x z).shut = x.shut ∧ (stepG x z).opn = x.opn ∧ (stepG x z).hold = x.hold := by
  unfold stepG
  split
  · exact ⟨rfl, rfl, rfl, rfl⟩
  · split
    · exact ⟨rfl, rfl, rfl, rfl⟩
    · split <;> exact ⟨rfl, rfl, rfl, rfl⟩
theorem stepG_open {x : Gate} (h : x.shuts = false) (z : Int) : (stepG x z).shuts = decide (x.shut ≤ z) := by
  unfold stepG; rw [if_pos h]
/-- The hours that a gate's hold asks yet. -/
def leftG (x : Gate) : Int := if x.shuts = true then x.hold - x.calm else 0
theorem stepG_shut {x : Gate} (h : x.shuts = true) (hc : x.calm ≤ x.hold - 1) (z : Int) : (stepG x z).shuts = !(decide (leftG x = 1) && decide (z < x.opn)) := by
  unfold stepG leftG
  rw [if_neg (by rw [h]; decide), if_pos h]
  by_cases h1 : x.opn ≤ z
  · rw [if_pos h1]
    have : ¬ z < x.opn := by omega
    simp [h, this]
  · rw [if_neg h1]
    have h2 : z < x.opn := by omega
    by_cases h3 : x.hold ≤ x.calm + 1
    · rw [if_pos h3]
      have : x.hold - x.calm = 1 := by omega
      simp [h2, this]
    · rw [if_neg h3]
      have : ¬ x.hold - x.calm = 1 := by omega
      simp [h, this]
theorem leftG_zero {x : Gate} (hc : x.calm ≤ x.hold - 1) : (leftG x == 0) = !x.shuts := by
  unfold leftG
  cases h : x.shuts
  · rfl
  · rw [if_pos rfl]; show (x.hold - x.calm == 0) = false; rw [beq_eq_false_iff_ne]; omega
theorem gAt_keeps (x : Gate) (hz : List Int) : ∀ k, (gAt x hz k).id = x.id ∧ (gAt x hz k).shut = x.shut ∧ (gAt x hz k).opn = x.opn ∧ (gAt x hz k).hold = x.hold
  | 0 => ⟨rfl, rfl, rfl, rfl⟩
  | k + 1 => by
    obtain ⟨a, b, c, d⟩ := gAt_keeps x hz k
    obtain ⟨e, f, g, h⟩ := stepG_keeps (gAt x hz k) (nth hz k)
    simp only [gAt]
    exact ⟨e.trans a, f.trans b, g.trans c, h.trans d⟩
/-- The first hour of these at which the gate is shut; -1 if there is none. -/
def earlyG (x : Gate) (hz : List Int) : Nat → Int
  | 0 => -1
  | k + 1 => if earlyG x hz k < 0 ∧ (gAt x hz (k + 1)).shuts = true then k else earlyG x hz k
theorem early_bd (x : Gate) (hz : List Int) : ∀ k, -1 ≤ earlyG x hz k ∧ earlyG x hz k < k
  | 0 => by simp [earlyG]
  | k + 1 => by
    have := early_bd x hz k
    simp only [earlyG]; split <;> omega
theorem early_none {x : Gate} {hz : List Int} : ∀ {k : Nat}, (∀ j, j < k → (gAt x hz (j + 1)).shuts = false) → earlyG x hz k = -1
  | 0, _ => rfl
  | k + 1, h => by
    simp only [earlyG]
    rw [early_none (fun j hj => h j (by omega)), h k (by omega)]
    simp
theorem early_at {x : Gate} {hz : List Int} {k : Nat} (h : ∀ j, j < k → (gAt x hz (j + 1)).shuts = false) (hs : (gAt x hz (k + 1)).shuts = true) : ∀ d, earlyG x hz (k + 1 + d) = k
  | 0 => by
    show earlyG x hz (k + 1) = k
    simp only [earlyG]; rw [early_none h, hs]; simp
  | d + 1 => by
    show (if earlyG x hz (k + 1 + d) < 0 ∧ _ then _ else earlyG x hz (k + 1 + d)) = _
    rw [if_neg (fun hh => by have h0 := hh.1; rw [early_at h hs d] at h0; omega)]
    exact early_at h hs d
end Go.Proofs.YtfiiaegfikocoaaDoor

/- Names' lengths; the ways of a conjunction. Plain Lean. -/
import Derived.Test.YtmkmmenkjbmppaaDoorBasics
namespace Go.Proofs.YtmkmmenkjbmppaaDoor
theorem nameB_size {s : ByteArray} (h : nameB s = true) : s.size ≤ 10 := by
  unfold nameB at h; simp only [Bool.and_eq_true, decide_eq_true_eq] at h; exact h.1.1.2
theorem and3 (a0 a1 : Bool) : (a0 = false) ∨ (a0 = true ∧ a1 = false) ∨ (a0 = true ∧ a1 = true) := by
  cases a0 <;> cases a1 <;> simp
theorem and4 (a0 a1 a2 : Bool) : (a0 = false) ∨ (a0 = true ∧ a1 = false) ∨ (a0 = true ∧ a1 = true ∧ a2 = false) ∨ (a0 = true ∧ a1 = true ∧ a2 = true) := by
  cases a0 <;> cases a1 <;> cases a2 <;> simp
theorem and5 (a0 a1 a2 a3 : Bool) : (a0 = false) ∨ (a0 = true ∧ a1 = false) ∨ (a0 = true ∧ a1 = true ∧ a2 = false) ∨ (a0 = true ∧ a1 = true ∧ a2 = true ∧ a3 = false) ∨ (a0 = true ∧ a1 = true ∧ a2 = true ∧ a3 = true) := by
  cases a0 <;> cases a1 <;> cases a2 <;> cases a3 <;> simp
theorem and6 (a0 a1 a2 a3 a4 : Bool) : (a0 = false) ∨ (a0 = true ∧ a1 = false) ∨ (a0 = true ∧ a1 = true ∧ a2 = false) ∨ (a0 = true ∧ a1 = true ∧ a2 = true ∧ a3 = false) ∨ (a0 = true ∧ a1 = true ∧ a2 = true ∧ a3 = true ∧ a4 = false) ∨ (a0 = true ∧ a1 = true ∧ a2 = true ∧ a3 = true ∧ a4 = true) := by
  cases a0 <;> cases a1 <;> cases a2 <;> cases a3 <;> cases a4 <;> simp
theorem and7 (a0 a1 a2 a3 a4 a5 : Bool) : (a0 = false) ∨ (a0 = true ∧ a1 = false) ∨ (a0 = true ∧ a1 = true ∧ a2 = false) ∨ (a0 = true ∧ a1 = true ∧ a2 = true ∧ a3 = false) ∨ (a0 = true ∧ a1 = true ∧ a2 = true ∧ a3 = true ∧ a4 = false) ∨ (a0 = true ∧ a1 = true ∧ a2 = true ∧ a3 = true ∧ a4 = true ∧ a5 = false) ∨ (a0 = true ∧ a1 = true ∧ a2 = true ∧ a3 = true ∧ a4 = true ∧ a5 = true) := by
  cases a0 <;> cases a1 <;> cases a2 <;> cases a3 <;> cases a4 <;> cases a5 <;> simp
theorem and8 (a0 a1 a2 a3 a4 a5 a6 : Bool) : (a0 = false) ∨ (a0 = true ∧ a1 = false) ∨ (a0 = true ∧ a1 = true ∧ a2 = false) ∨ (a0 = true ∧ a1 = true ∧ a2 = true ∧ a3 = false) ∨ (a0 = true ∧ a1 = true ∧ a2 = true ∧ a3 = true ∧ a4 = false) ∨ (a0 = true ∧ a1 = true ∧ a2 = true ∧ a3 = true ∧ a4 = true ∧ a5 = false) ∨ (a0 = true ∧ a1 = true ∧ a2 = true ∧ a3 = true ∧ a4 = true ∧ a5 = true ∧ a6 = false) ∨ (a0 = true ∧ a1 = true ∧ a2 = true ∧ a3 = true ∧ a4 = true ∧ a5 = true ∧ a6 = true) := by
  cases a0 <;> cases a1 <;> cases a2 <;> cases a3 <;> cases a4 <;> cases a5 <;> cases a6 <;> simp
theorem and9 (a0 a1 a2 a3 a4 a5 a6 a7 : Bool) : (a0 = false) ∨ (a0 = true ∧ a1 = false) ∨ (a0 = true ∧ a1 = true ∧ a2 = false) ∨ (a0 = true ∧ a1 = true ∧ a2 = true ∧ a3 = false) ∨ (a0 = true ∧ a1 = true ∧ a2 = true ∧ a3 = true ∧ a4 = false) ∨ (a0 = true ∧ a1 = true ∧ a2 = true ∧ a3 = true ∧ a4 = true ∧ a5 = false) ∨ (a0 = true ∧ a1 = true ∧ a2 = true ∧ a3 = true ∧ a4 = true ∧ a5 = true ∧ a6 = false) ∨ (a0 = true ∧ a1 = true ∧ a2 = true ∧ a3 = true ∧ a4 = true ∧ a5 = true ∧ a6 = true ∧ a7 = false) ∨ (a0 = true ∧ a1 = true ∧ a2 = true ∧ a3 = true ∧ a4 = true ∧ a5 = true ∧ a6 = true ∧ a7 = true) := by
  cases a0 <;> cases a1 <;> cases a2 <;> cases a3 <;> cases a4 <;> cases a5 <;> cases a6 <;> cases a7 <;> simp
theorem and2 (a0 : Bool) : (a0 = false) ∨ (a0 = true) := by cases a0 <;> simp
end Go.Proofs.YtmkmmenkjbmppaaDoor

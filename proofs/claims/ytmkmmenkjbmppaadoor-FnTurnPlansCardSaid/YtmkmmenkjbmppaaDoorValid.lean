/- Lists of things that are valid one by one and in order. Plain Lean. -/
import Derived.Test.YtmkmmenkjbmppaaDoorBase
namespace Go.Proofs.YtmkmmenkjbmppaaDoor
section
variable {α : Type} [Inhabited α] {one : α → Bool} {ord : α → α → Bool} {mx : Nat} {l : List α} {k : Nat}
/-- The k-th thing is valid, and behind the one before it. -/
def vOk (one : α → Bool) (ord : α → α → Bool) (l : List α) (k : Nat) : Bool := one (nth l k) && (decide (k = 0) || ord (nth l (k - 1)) (nth l k))
def vAll (one : α → Bool) (ord : α → α → Bool) (mx : Nat) (l : List α) : Bool := decide (l.length ≤ mx) && allB l.length (vOk one ord l)
theorem vAll_bad (hk : k < l.length) (h : vOk one ord l k = false) : false = vAll one ord mx l := by
  unfold vAll; rw [allB_bad hk h]; simp
theorem vAll_len (h : mx < l.length) : false = vAll one ord mx l := by
  unfold vAll; rw [show decide (l.length ≤ mx) = false from decide_eq_false (by omega)]; rfl
theorem vAll_end (h : ∀ j, j < l.length → vOk one ord l j = true) : vAll one ord mx l = decide (l.length ≤ mx) := by
  unfold vAll; rw [allB_end h]; simp
theorem vOk_false1 (h : one (nth l k) = false) : vOk one ord l k = false := by unfold vOk; rw [h]; rfl
theorem vOk_false2 (h : 0 < k) (h' : ord (nth l (k - 1)) (nth l k) = false) : vOk one ord l k = false := by
  unfold vOk; rw [h', show decide (k = 0) = false from decide_eq_false (by omega)]; simp
theorem vOk_true0 (h : one (nth l k) = true) (hk : k = 0) : vOk one ord l k = true := by unfold vOk; rw [h, hk]; rfl
theorem vOk_true1 (h : one (nth l k) = true) (h' : ord (nth l (k - 1)) (nth l k) = true) : vOk one ord l k = true := by unfold vOk; rw [h, h']; simp
theorem vAll_len_le (h : vAll one ord mx l = true) : l.length ≤ mx := by unfold vAll at h; simp only [Bool.and_eq_true, decide_eq_true_eq] at h; exact h.1
theorem vAll_ok (h : vAll one ord mx l = true) : ∀ k, k < l.length → vOk one ord l k = true := by unfold vAll at h; simp only [Bool.and_eq_true] at h; exact allB_iff.1 h.2
theorem vAll_one (h : vAll one ord mx l = true) : ∀ k, k < l.length → one (nth l k) = true := fun k hk => by
  have := vAll_ok h k hk; unfold vOk at this; simp only [Bool.and_eq_true] at this; exact this.1
theorem vAll_ord (h : vAll one ord mx l = true) : ∀ k, k + 1 < l.length → ord (nth l k) (nth l (k + 1)) = true := fun k hk => by
  have := vAll_ok h (k + 1) hk; unfold vOk at this; simp at this; exact this.2
end
end Go.Proofs.YtmkmmenkjbmppaaDoor

/- The law's own helpers on lists of versions. -/
import Derived.Test.YtbcpgdidajapoaaDoorVrs
namespace Go.Proofs.YtbcpgdidajapoaaDoor
open Go.RowKit
def sumS (l : List Version) : Nat → Nat
  | 0 => 0
  | k + 1 => sumS l k + (nth l k).state.length
theorem offV_sum (l : List Version) : ∀ k, offV l k = 3 * k + 2 * sumS l k
  | 0 => rfl
  | k + 1 => by show offV l k + _ = 3 * (k + 1) + 2 * (sumS l k + _); rw [offV_sum l k]; omega
theorem sumS_same {l l2 : List Version} (h : strips l = strips l2) : ∀ k, k ≤ l.length → sumS l k = sumS l2 k
  | 0, _ => rfl
  | k + 1, hk => by show sumS l k + _ = sumS l2 k + _; rw [sumS_same h k (by omega), (strips_at h (k := k) (by omega)).2.2.2]
theorem small_same {l l2 : List Version} (h : strips l2 = strips l) (hS : ∀ k, k < l.length → (nth l k).Small) (hc : ∀ k, k < l2.length → (nth l2 k).state.length ≤ (nth l2 k).cap) : ∀ k, k < l2.length → (nth l2 k).Small := fun k hk => by
  obtain ⟨e1, e2, e3, e4⟩ := strips_at h hk
  obtain ⟨s1, s2, s3, s4⟩ := hS k (by rw [← strips_length h]; exact hk)
  exact ⟨by rw [e3]; exact s1, fun j hj => by rw [e4] at hj ⊢; exact s2 j hj, by rw [e4]; exact s3, hc k hk⟩
/-- Sizes of a list of versions that a law asks. -/
def GoodP (P : List VerP) : Prop := P.length ≤ 100 ∧ ∀ k, k < P.length → (nth P k).state.length ≤ 1000
theorem sumS_le {l : List Version} {m : Nat} (h : ∀ k, k < l.length → (nth l k).state.length ≤ m) : ∀ j, j ≤ l.length → sumS l j ≤ j * m
  | 0, _ => by simp [sumS]
  | j + 1, hj => by
    have := sumS_le h j (by omega)
    have := h j (by omega)
    have e : (j + 1) * m = j * m + m := Nat.succ_mul j m
    show sumS l j + _ ≤ _
    omega
theorem good_at {P : List VerP} (h : GoodP P) {l : List Version} (hl : strips l = P) : l.length ≤ 100 ∧ (∀ k, k < l.length → (nth l k).state.length ≤ 9223372036854775807) ∧ offV l l.length ≤ 1000000 := by
  subst hl
  obtain ⟨h1, h2⟩ := h
  rw [strips_len] at h1 h2
  have h3 : ∀ k, k < l.length → (nth l k).state.length ≤ 1000 := fun k hk => by have := h2 k hk; rw [nth_strips hk] at this; exact this
  refine ⟨h1, fun k hk => by have := h3 k hk; omega, ?_⟩
  have := sumS_le h3 _ (Nat.le_refl _)
  rw [offV_sum]
  omega
end Go.Proofs.YtbcpgdidajapoaaDoor

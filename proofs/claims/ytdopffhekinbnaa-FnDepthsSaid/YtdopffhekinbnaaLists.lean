/- Lists of numbers: whether one is among them, whether all are within bounds. What the program's and the reference's functions, and those of Go's package slices, hand back. -/
import Derived.Test.YtdopffhekinbnaaBasics
namespace Go.Proofs.Ytdopffhekinbnaa
open Go.RowKit

def hasB (l : List Int) (n : Int) : Bool := l.contains n
theorem hasB_iff {l : List Int} {n : Int} : hasB l n = true ↔ n ∈ l := by simp [hasB]
theorem hasB_true {l : List Int} {n : Int} {k : Nat} (hk : k < l.length) (h : nth l k = n) : true = hasB l n := (hasB_iff.2 (h ▸ nth_mem hk)).symm
theorem hasB_false {l : List Int} {n : Int} (h : ∀ k, k < l.length → nth l k ≠ n) : false = hasB l n := by
  symm; rw [← Bool.not_eq_true, hasB_iff]; intro hm; obtain ⟨k, hk, e⟩ := mem_nth hm; exact h k hk e
/-- The first place of n in l, or -1. -/
def idxI (l : List Int) (p : Int → Bool) : Int := match l.findIdx? p with | some k => k | none => -1
theorem idxI_hit {l : List Int} {p : Int → Bool} {k : Nat} (hk : k < l.length) (h : p (nth l k) = true) (h0 : ∀ j, j < k → p (nth l j) = false) : (k : Int) = idxI l p := by
  unfold idxI
  rw [show l.findIdx? p = some k by
    rw [List.findIdx?_eq_some_iff_getElem]
    exact ⟨hk, by rw [← nth_eq l k hk]; exact h, fun j hj => by rw [← nth_eq l j (by omega), h0 j hj]; decide⟩]
theorem idxI_miss {l : List Int} {p : Int → Bool} (h0 : ∀ j, j < l.length → p (nth l j) = false) : -1 = idxI l p := by
  unfold idxI
  rw [show l.findIdx? p = none by
    rw [List.findIdx?_eq_none_iff]; intro x hx; obtain ⟨k, hk, rfl⟩ := mem_nth hx; exact h0 k hk]
theorem idxI_pos (l : List Int) (p : Int → Bool) : decide (0 ≤ idxI l p) = l.any p := by
  unfold idxI
  cases h : l.findIdx? p with
  | none =>
    rw [List.findIdx?_eq_none_iff] at h
    have : l.any p = false := by rw [List.any_eq_false]; intro x hx; rw [h x hx]; decide
    rw [this]; rfl
  | some k =>
    rw [List.findIdx?_eq_some_iff_getElem] at h
    obtain ⟨hk, hp, _⟩ := h
    have : l.any p = true := by rw [List.any_eq_true]; exact ⟨_, List.getElem_mem hk, hp⟩
    rw [this]; simp
theorem idxI_bd (l : List Int) (p : Int → Bool) : -1 ≤ idxI l p ∧ idxI l p ≤ l.length := by
  unfold idxI
  cases h : l.findIdx? p with
  | none => simp only []; omega
  | some k => rw [List.findIdx?_eq_some_iff_getElem] at h; have := h.1; simp only []; omega
def allIn (l : List Int) (lo hi : Int) : Bool := l.all fun x => inB x lo hi
theorem allIn_iff {l : List Int} {lo hi : Int} : allIn l lo hi = true ↔ ∀ k, k < l.length → inB (nth l k) lo hi = true := by
  unfold allIn; rw [List.all_eq_true]
  exact ⟨fun h k hk => h _ (nth_mem hk), fun h x hx => by obtain ⟨k, hk, rfl⟩ := mem_nth hx; exact h k hk⟩
end Go.Proofs.Ytdopffhekinbnaa

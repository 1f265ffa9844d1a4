/- Go's slices.Sort and slices.Compact at a list of numbers that is the call's own. -/
import Derived.Test.YtdopffhekinbnaaElI
import Derived.Test.YtdopffhekinbnaaShelf
import Derived.Test.YtdopffhekinbnaaSrt
import Derived.Sort.OwnSortedInts
namespace Go.Proofs.Ytdopffhekinbnaa
open Go.RowKit
open Go.Sort (grow putRow grow_empty)
theorem flat_celI (l : List Int) : flat 1 celI l = l.map (Value.int .i64) := by
  induction l with
  | nil => rfl
  | cons x l ih =>
    have : flat 1 celI (x :: l) = (List.range 1).map (celI x) ++ flat 1 celI l := by simp [flat]
    rw [this, ih]; rfl
def leI (x y : Int) : Bool := decide (x ≤ y)
def sortI (l : List Int) : List Int := l.mergeSort leI
theorem sortI_len (l : List Int) : (sortI l).length = l.length := List.length_mergeSort l
theorem sortI_perm (l : List Int) : (sortI l).Perm l := List.mergeSort_perm l leI
theorem sortI_up (l : List Int) : (sortI l).Pairwise (fun a b => a ≤ b) := by
  have := List.pairwise_mergeSort (le := leI) (fun a b c h k => by unfold leI at *; simp only [decide_eq_true_eq] at *; omega) (fun a b => by unfold leI; simp only [Bool.or_eq_true, decide_eq_true_eq]; omega) l
  exact this.imp fun h => by unfold leI at h; simpa using h
/-- A shorter part of a list of the call's own. -/
theorem Lst.pre {α : Type} {T n : Nat} {cell : α → Nat → Value} {w : World} {base k cap : Nat} {a : Option Addr} {l m : List α} (h : Lst T n cell w base (.slice a (l ++ m).length cap) (l ++ m)) (hk : k = l.length) : Lst T n cell w base (.slice a k cap) l := by
  subst hk
  refine ⟨flat_length l, ?_⟩
  rcases h.2 with ⟨hv, h0⟩ | ⟨g, cap', cur, hv, hg, hh, hc, hm, hs, ht⟩
  · simp only [Value.slice.injEq] at hv
    obtain ⟨rfl, -, rfl⟩ := hv
    rw [List.length_append] at h0
    exact .inl ⟨by rw [show l.length = 0 by omega], by omega⟩
  · simp only [Value.slice.injEq] at hv
    obtain ⟨rfl, -, rfl⟩ := hv
    rw [List.length_append] at hc ht
    refine .inr ⟨g, cap, cur, rfl, hg, hh, by omega, hm, hs, ?_⟩
    have e : (cur.toList.take ((l.length + m.length) * n)).take (l.length * n) = cur.toList.take (l.length * n) := by
      rw [List.take_take, Nat.min_eq_left (Nat.mul_le_mul_right n (by omega))]
    rw [← e, ht, flat_append, ← flat_length l (n := n) (cell := cell), List.take_left]
theorem SortI_any (w : World) (base : Nat) (a : Option Addr) (cap : Nat) (l : List Int) (h : Lst 2 1 celI w base (.slice a l.length cap) l) (hl : l.length ≤ 1000000) :
    Calls Try.prog 32 #[.slice a l.length cap] w fun e w' => e = .returned (.tuple #[]) ∧ Lst 2 1 celI w' base (.slice a l.length cap) (sortI l) ∧ w.grownBy w' (Value.slice a l.length cap).ownBlock ∧ Since base w w' := by
  rcases h.2 with ⟨hv, h0⟩ | ⟨g, cap', cur, hv, hg, hh, hc, hm, hs, ht⟩
  · simp only [Value.slice.injEq] at hv
    obtain ⟨rfl, hl0, rfl⟩ := hv
    obtain rfl : l = [] := List.eq_nil_of_length_eq_zero hl0
    refine (Try.slices_Sort_int_none none 0 w).mono ?_
    rintro e w' ⟨rfl, rfl⟩
    exact ⟨rfl, by rw [show sortI [] = [] from List.mergeSort_nil]; exact h, ⟨rfl, rfl, rfl, Nat.le_refl _, fun _ _ _ => rfl⟩, Since.of_ext (Ext.refl _)⟩
  · simp only [Value.slice.injEq] at hv
    obtain ⟨rfl, -, rfl⟩ := hv
    rw [Nat.mul_one, flat_celI] at ht
    have hlt : g < w.heap.size := by
      rcases Nat.lt_or_ge g w.heap.size with h1 | h1
      · exact h1
      · rw [Array.getElem?_eq_none h1] at hh; cases hh
    refine (Try.slices_Sort_int g 0 cap l w (holds_of_blockI hh ht) hlt (by omega)).mono ?_
    rintro e w' ⟨rfl, n, os, rfl⟩
    have hg2 := grownBy_sortedI (w := w) (g := g) (n := n) (os := os) (sortI l).toArray
    refine ⟨rfl, ?_, hg2, Since.of_grown hg2 (fun k hk => by simp only [Option.some.injEq] at hk; omega)⟩
    have := ownsRow_sortedI (w := w) (base := base) (g := g) (cap := cap) (n := n) (os := os) (ts := sortI l) (sortI_len l) hg hh hc hm hs
    unfold Lst
    rw [flat_celI, sortI_len]; exact this
end Go.Proofs.Ytdopffhekinbnaa

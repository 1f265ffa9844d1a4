/- Lists in memory of the call's own: their parts, an element written, a list cut short. No conditions. -/
import Derived.Test.YtdopffhekinbnaaLst
namespace Go.Proofs.Ytdopffhekinbnaa
open Go.RowKit
theorem Lst.low {α : Type} {T n b0 b1 : Nat} {cell : α → Nat → Value} {w : World} {v : Value} {l : List α} (h : Lst T n cell w b1 v l) (hb : b0 ≤ b1) : Lst T n cell w b0 v l := by
  refine ⟨h.1, ?_⟩
  rcases h.2 with h2 | ⟨g, cap, cur, hv, hg, r⟩
  · exact .inl h2
  · exact .inr ⟨g, cap, cur, hv, Nat.le_trans hb hg, r⟩
/-- A list in a block of the call's own, told by its elements. -/
theorem Lst.of_rows {α : Type} [Inhabited α] {T n base g cap : Nat} {cell : α → Nat → Value} {w : World} {l : List α} (hB : Blk w g T (cap * n)) (hb : base ≤ g) (hR : RowsAt n cell w (some ⟨g, 0, none⟩) l) (hc : l.length ≤ cap) (hm : cap ≤ maxLen) : Lst T n cell w base (.slice (some ⟨g, 0, none⟩) l.length cap) l := by
  obtain ⟨cur, hh, hs⟩ := hB
  refine ⟨flat_length l, .inr ⟨g, cap, cur, rfl, hb, hh, hc, hm, hs, ?_⟩⟩
  have hle : l.length * n ≤ cur.toList.length := by
    have h1 : l.length * n ≤ cap * n := Nat.mul_le_mul_right n hc
    have h2 : cur.toList.length = cap * n := by rw [← hs]; exact Array.length_toList
    omega
  apply List.ext_getElem?
  intro i
  by_cases hi : i < l.length * n
  · obtain ⟨k, j, hk, hj, rfl⟩ := split_index hi
    rw [List.getElem?_take, if_pos hi, flat_get l k hk j hj, Array.getElem?_toList]
    obtain ⟨b, off, e, _, hcell⟩ := hR k hk
    simp only [Option.some.injEq, Addr.mk.injEq, and_true] at e
    obtain ⟨rfl, rfl⟩ := e
    have := hcell j hj
    unfold World.cell? at this
    rw [hh] at this
    simpa using this
  · rw [List.getElem?_eq_none (show (cur.toList.take (l.length * n)).length ≤ i by rw [List.length_take]; omega), List.getElem?_eq_none (show (flat n cell l).length ≤ i by rw [flat_length]; omega)]
/-- The parts of a list that is not empty. -/
theorem Lst.parts {α : Type} [Inhabited α] {T n base : Nat} {cell : α → Nat → Value} {w : World} {v : Value} {l : List α} (h : Lst T n cell w base v l) (hl : 0 < l.length) : ∃ g cap, v = .slice (some ⟨g, 0, none⟩) l.length cap ∧ base ≤ g ∧ Blk w g T (cap * n) ∧ RowsAt n cell w (some ⟨g, 0, none⟩) l ∧ l.length ≤ cap ∧ cap ≤ maxLen := by
  have hsh := h.shape
  rcases h.2 with ⟨hv, hx⟩ | ⟨g, cap, cur, hv, hg, hh, hc, hm, hs, ht⟩
  · have : l.length = 0 := hx
    omega
  · refine ⟨g, cap, hv, hg, ⟨cur, hh, hs⟩, ?_, hc, hm⟩
    obtain ⟨a, cap', e, -, -, hR, -⟩ := hsh
    rw [hv] at e
    simp only [Value.slice.injEq] at e
    rw [e.1]; exact hR
/-- An element of the list is written. -/
theorem Lst.put {α : Type} [Inhabited α] {T n base : Nat} {cell : α → Nat → Value} {w : World} {g cap : Nat} {l : List α} (hg : base ≤ g) (hB : Blk w g T (cap * n)) (hR : RowsAt n cell w (some ⟨g, 0, none⟩) l) (hc : l.length ≤ cap) (hm : cap ≤ maxLen) {k : Nat} (hk : k < l.length) (y : α) (vs : List Value) (hl : vs.length = n) (hv : ∀ j, j < n → vs[j]? = some (cell y j)) :
    Lst T n cell (w.setCells g (k * n) vs) base (.slice (some ⟨g, 0, none⟩) (l.set k y).length cap) (l.set k y) :=
  Lst.of_rows (hB.setCells g vs _ w) hg (RowsAt.set hR hB (Nat.mul_le_mul_right n hc) hk vs hl hv) (by rw [List.length_set]; exact hc) hm
/-- A list cut to its first elements. -/
theorem Lst.cutTo {α : Type} [Inhabited α] {T n base : Nat} {cell : α → Nat → Value} {w : World} {g cap : Nat} {l : List α} (hg : base ≤ g) (hB : Blk w g T (cap * n)) (hR : RowsAt n cell w (some ⟨g, 0, none⟩) l) (hc : l.length ≤ cap) (hm : cap ≤ maxLen) {k : Nat} (hk : k ≤ l.length) : Lst T n cell w base (.slice (some ⟨g, 0, none⟩) k cap) (l.take k) := by
  have := Lst.of_rows (T := T) (base := base) hB hg (hR.take k) (by rw [List.length_take]; omega) hm
  rwa [List.length_take, Nat.min_eq_left hk] at this
/-- A cell of another block is written. -/
theorem Lst.setN {α : Type} {T n base b o : Nat} {cell : α → Nat → Value} {w : World} {v : Value} {l : List α} (h : Lst T n cell w base v l) (hb : ∀ g, v.ownBlock = some g → g ≠ b) (u : Value) : Lst T n cell (w.setCell ⟨b, o, none⟩ u) base v l := by
  refine ⟨h.1, ?_⟩
  rcases h.2 with h2 | ⟨g, cap, cur, hv, hg, hh, r⟩
  · exact .inl h2
  · exact .inr ⟨g, cap, cur, hv, hg, by rw [heap_setCell_other w ⟨b, o, none⟩ g u (by show g ≠ b; exact hb g (by rw [hv]; rfl))]; exact hh, r⟩
end Go.Proofs.Ytdopffhekinbnaa

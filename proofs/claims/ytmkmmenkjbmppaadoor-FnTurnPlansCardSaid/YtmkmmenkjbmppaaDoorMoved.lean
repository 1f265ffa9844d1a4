/- What a call leaves that turns one object only and lays new blocks: facts about the rest. No conditions. -/
import Derived.Test.YtmkmmenkjbmppaaDoorSrc
import Derived.Test.YtmkmmenkjbmppaaDoorLst
namespace Go.Proofs.YtmkmmenkjbmppaaDoor
open Go.RowKit
theorem Moved.blk {sb : Nat} {w w' : World} (h : Moved sb w w') {g T n : Nat} (hg : g ≠ sb) (hB : Blk w g T n) : Blk w' g T n := by
  obtain ⟨cs, hc, e⟩ := hB
  exact ⟨cs, h.obj g _ hg hc, e⟩
theorem Moved.fresh {sb : Nat} {w w' : World} (h : Moved sb w w') {b o : Nat} (hb : w.heap.size ≤ b) (v : Value) : Moved sb w (w'.setCell ⟨b, o, none⟩ v) := by
  refine ⟨fun w0 h0 he => (h.ext w0 h0 he).setCell (p := ⟨b, o, none⟩) (Nat.le_trans he.size hb) v, by simpa using h.size, fun g x hg hx => ?_⟩
  have hlt : g < w.heap.size := by
    rcases Nat.lt_or_ge g w.heap.size with h1 | h1
    · exact h1
    · rw [Array.getElem?_eq_none h1] at hx; cases hx
  rw [heap_setCell_other w' ⟨b, o, none⟩ g _ (by show g ≠ b; omega)]
  exact h.obj g x hg hx
theorem Moved.more {sb : Nat} {w w' w'' : World} (h : Moved sb w w') (he : Ext w' w'') : Moved sb w w'' := h.trans (Moved.grow he)
theorem Src.other {w0 w : World} {sb : Nat} {a : Option Addr} {cap : Nat} {code : List Int} {n : Nat} (h : Src w sb a cap code n) (h0 : ByteAt w0 a code) {b o : Nat} (hb : w0.heap.size ≤ b) (hne : b ≠ sb) (v : Value) : Src (w.setCell ⟨b, o, none⟩ v) sb a cap code n := by
  refine ⟨h.blk.set _ _ _, ?_, ?_, ?_, ?_, h.range, h.few, h.apart⟩
  · rw [cell_other _ (by omega)]; exact h.c0
  · rw [cell_other _ (by omega)]; exact h.c1
  · obtain ⟨sd, h1, h2⟩ := h.c2
    exact ⟨sd, by rw [cell_other _ (by omega)]; exact h1, h2⟩
  · intro k hk
    obtain ⟨b1, o1, e1, hb1, -⟩ := h0 k hk
    obtain ⟨b2, o2, e2, hb2, hc2⟩ := h.bytes k hk
    rw [e1] at e2
    simp only [Option.some.injEq, Addr.mk.injEq, and_true] at e2
    obtain ⟨rfl, rfl⟩ := e2
    exact ⟨b1, o1, e1, by simpa using hb2, fun q hq => by rw [cell_other _ (by omega)]; exact hc2 q hq⟩
theorem Lst.moved {α : Type} {T n : Nat} {cell : α → Nat → Value} {sb base : Nat} {w w' : World} {v : Value} {l : List α} (h : Lst T n cell w base v l) (hm : Moved sb w w') (hb : sb < base) : Lst T n cell w' base v l := by
  refine ⟨h.1, ?_⟩
  rcases h.2 with h2 | ⟨g, cap, cur, hv, hg, hh, r⟩
  · exact .inl h2
  · exact .inr ⟨g, cap, cur, hv, hg, hm.obj g _ (by omega) hh, r⟩
theorem Moved.grown {sb : Nat} {w w2 w3 : World} {row : Option Nat} (h : Moved sb w w2) (hg : w2.grownBy w3 row) (hr : ∀ k, row = some k → w.heap.size ≤ k) : Moved sb w w3 := by
  refine ⟨fun w0 h0 he => (h.ext w0 h0 he).grown hg (fun k hk => Nat.le_trans he.size (hr k hk)), Nat.le_trans h.size hg.size, fun g x hn hx => ?_⟩
  have hlt : g < w.heap.size := by
    rcases Nat.lt_or_ge g w.heap.size with h1 | h1
    · exact h1
    · rw [Array.getElem?_eq_none h1] at hx; cases hx
  rw [hg.block g (Nat.lt_of_lt_of_le hlt h.size) (fun e => by have := hr g e.symm; omega)]
  exact h.obj g x hn hx
theorem Src.grown {w w' : World} {sb : Nat} {a : Option Addr} {cap : Nat} {code : List Int} {n : Nat} {row : Option Nat} {base : Nat} {w0 : World} (h : Src w sb a cap code n) (hg : w.grownBy w' row) (hr : ∀ g, row = some g → base ≤ g) (hb : sb < base) (h0 : ByteAt w0 a code) (hw : w0.heap.size ≤ base) : Src w' sb a cap code n := by
  have hne : row ≠ some sb := fun e => by have := hr _ e; omega
  refine ⟨h.blk.grown hg hne, cell_grown h.c0 hg hne, cell_grown h.c1 hg hne, ?_, ?_, h.range, h.few, h.apart⟩
  · obtain ⟨sd, h1, h2⟩ := h.c2
    exact ⟨sd, cell_grown h1 hg hne, h2⟩
  · intro k hk
    obtain ⟨b1, o1, e1, hb1, -⟩ := h0 k hk
    obtain ⟨b2, o2, e2, hb2, hc2⟩ := h.bytes k hk
    rw [e1] at e2
    simp only [Option.some.injEq, Addr.mk.injEq, and_true] at e2
    obtain ⟨rfl, rfl⟩ := e2
    exact ⟨b1, o1, e1, Nat.lt_of_lt_of_le hb2 hg.size, fun q hq => cell_grown (hc2 q hq) hg (fun e => by have := hr _ e; omega)⟩
end Go.Proofs.YtmkmmenkjbmppaaDoor

/- A slice of the call's own that begins behind its block's first cell: marks in it. -/
import Derived.Test.YtbcpgdidajapoaaDoorVrs
import Derived.Test.YtbcpgdidajapoaaDoorMark
namespace Go.Proofs.YtbcpgdidajapoaaDoor
open Go.RowKit
def OwnO (w : World) (base T : Nat) (a : Option Addr) (n : Nat) : Prop := n = 0 ∨ ∃ g o N, a = some ⟨g, o, none⟩ ∧ base ≤ g ∧ Blk w g T N ∧ o + n ≤ N
section
variable {w w' : World} {base T n : Nat} {a : Option Addr}
theorem OwnO.ext (h : OwnO w base T a n) (he : Ext w w') : OwnO w' base T a n := by
  rcases h with h | ⟨g, o, N, e, hg, hB, hn⟩
  · exact .inl h
  · exact .inr ⟨g, o, N, e, hg, hB.ext he, hn⟩
theorem OwnO.mid {lo hi : Nat} (h : OwnO w base T a n) (hm : Mid lo hi w w') (hb : hi ≤ base) : OwnO w' base T a n := by
  rcases h with h | ⟨g, o, N, e, hg, hB, hn⟩
  · exact .inl h
  · exact .inr ⟨g, o, N, e, hg, hB.mid hm (.inr (by omega)), hn⟩
theorem OwnO.block (h : OwnO w base T a n) {g o : Nat} {s : Option Nat} (e : ownA n a = some ⟨g, o, s⟩) : base ≤ g ∧ g < w.heap.size := by
  rcases h with rfl | ⟨g', o', N, rfl, hb, hB, hN⟩
  · cases e
  · unfold ownA at e
    split at e
    · cases e
    · simp only [Option.some.injEq, Addr.mk.injEq] at e
      obtain ⟨rfl, -, -⟩ := e
      exact ⟨hb, hB.lt⟩
theorem Ext.markedO {w0 : World} (he : Ext w0 w) (hc : Chg (ownA n a) w w') (ho : OwnO w base T a n) (hb : w0.heap.size ≤ base) : Ext w0 w' :=
  he.chg hc (fun _ _ _ e => Nat.le_trans hb (ho.block e).1)
theorem RowsAt.midO {α : Type} [Inhabited α] {m lo hi : Nat} {cell : α → Nat → Value} {l : List α} (h : RowsAt m cell w a l) (ho : OwnO w base T a l.length) (hm : Mid lo hi w w') (hb : hi ≤ base) : RowsAt m cell w' a l := fun k hk => by
  obtain ⟨b, off, e, hl, hc⟩ := h k hk
  refine ⟨b, off, e, Nat.lt_of_lt_of_le hl hm.size, fun j hj => hm.cell (.inr ?_) (hc j hj)⟩
  have := (ho.block (show ownA l.length a = some ⟨b, off, none⟩ by rw [ownA_pos (by omega), e])).1
  omega
end
/-- A call that hands back such numbers, and further values. -/
def OutSO (w : World) (l : List Int) (rest : List Value) (e : Ending) (w' : World) : Prop :=
  ∃ a cap, e = .returned (.tuple (.slice a l.length cap :: rest).toArray) ∧ l.length ≤ cap ∧ OwnO w' w.heap.size 2 a l.length ∧ IntAt w' a l ∧ Ext w w'
end Go.Proofs.YtbcpgdidajapoaaDoor

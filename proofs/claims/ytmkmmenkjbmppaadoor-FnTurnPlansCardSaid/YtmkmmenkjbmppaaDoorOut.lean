/- What calls that hand back slices of their own leave, and how facts pass a call that writes into one such slice. No conditions. -/
import Derived.Test.YtmkmmenkjbmppaaDoorBase
namespace Go.Proofs.YtmkmmenkjbmppaaDoor
open Go.RowKit
/-- Where a slice of n elements begins, if it has any. -/
def ownA (n : Nat) (a : Option Addr) : Option Addr := if n = 0 then none else a
theorem ownA_zero (a : Option Addr) : ownA 0 a = none := rfl
theorem ownA_pos {n : Nat} (h : 0 < n) (a : Option Addr) : ownA n a = a := if_neg (by omega)
theorem Own.block {w : World} {base T m n : Nat} {a : Option Addr} (h : Own w base T m a n) {g o : Nat} {s : Option Nat} (e : ownA n a = some ⟨g, o, s⟩) : base ≤ g ∧ g < w.heap.size := by
  rcases h with rfl | ⟨g', N, rfl, hb, hB, hN⟩
  · cases e
  · unfold ownA at e
    split at e
    · cases e
    · simp only [Option.some.injEq, Addr.mk.injEq] at e
      obtain ⟨rfl, -, -⟩ := e
      exact ⟨hb, hB.lt⟩
theorem Ext.marked {w0 w w' : World} {base T m n : Nat} {a : Option Addr} (he : Ext w0 w) (hc : Chg (ownA n a) w w') (ho : Own w base T m a n) (hb : w0.heap.size ≤ base) : Ext w0 w' :=
  he.chg hc (fun _ _ _ e => Nat.le_trans hb (ho.block e).1)
theorem Blk.chg {w w' : World} {d : Option Addr} {g T n : Nat} (h : Blk w g T n) (hc : Chg d w w') (hd : ∀ g' o s, d = some ⟨g', o, s⟩ → g ≠ g') : Blk w' g T n := by
  have hl := h.lt
  obtain ⟨cs, h, e⟩ := h
  exact ⟨cs, by rw [hc.block g hl hd]; exact h, e⟩
theorem RowsAt.marked {α : Type} [Inhabited α] {m m' base T : Nat} {cell : α → Nat → Value} {w w' : World} {a d : Option Addr} {l : List α} (h : RowsAt m cell w a l) (ho : Own w base T m' a l.length) (hc : Chg d w w') (hd : ∀ g o s, d = some ⟨g, o, s⟩ → g < base) : RowsAt m cell w' a l := fun k hk => by
  obtain ⟨b, off, e, hb, hcell⟩ := h k hk
  refine ⟨b, off, e, Nat.lt_of_lt_of_le hb hc.size, fun j hj => hc.cell (fun g o s ed => ?_) (hcell j hj)⟩
  have h1 := (ho.block (show ownA l.length a = some ⟨b, off, none⟩ by rw [ownA_pos (by omega), e])).1
  have h2 := hd g o s ed
  omega
theorem Own.marked {w w' : World} {base T m n : Nat} {a d : Option Addr} (ho : Own w base T m a n) (hc : Chg d w w') (hd : ∀ g o s, d = some ⟨g, o, s⟩ → g < base) : Own w' base T m a n := by
  rcases ho with h | ⟨g, N, e, hb, hB, hN⟩
  · exact .inl h
  · exact .inr ⟨g, N, e, hb, hB.chg hc (fun g' o s ed => by have := hd g' o s ed; omega), hN⟩
theorem ownA_lt {n g base : Nat} (h : g < base) : ∀ g' o s, ownA n (some ⟨g, 0, none⟩) = some ⟨g', o, s⟩ → g' < base := by
  intro g' o s e
  unfold ownA at e
  split at e
  · cases e
  · simp only [Option.some.injEq, Addr.mk.injEq] at e
    obtain ⟨rfl, -, -⟩ := e
    exact h
theorem Own.of_blk {w : World} {g T m n N base : Nat} (h : Blk w g T N) (hb : base ≤ g) (hn : n * m ≤ N) : Own w base T m (some ⟨g, 0, none⟩) n := .inr ⟨g, N, rfl, hb, h, hn⟩
/-- A call that hands back a slice of its own, and further values. -/
def OutS {α : Type} [Inhabited α] (T m : Nat) (cell : α → Nat → Value) (w : World) (l : List α) (rest : List Value) (e : Ending) (w' : World) : Prop :=
  ∃ a cap, e = .returned (.tuple (.slice a l.length cap :: rest).toArray) ∧ l.length ≤ cap ∧ Own w' w.heap.size T m a l.length ∧ RowsAt m cell w' a l ∧ Ext w w'
/-- The same without further values. -/
def OutL {α : Type} [Inhabited α] (T m : Nat) (cell : α → Nat → Value) (w : World) (l : List α) (e : Ending) (w' : World) : Prop :=
  ∃ a cap, e = .returned (.slice a l.length cap) ∧ l.length ≤ cap ∧ Own w' w.heap.size T m a l.length ∧ RowsAt m cell w' a l ∧ Ext w w'
/-- A call that hands back a slice that can be read, and further values. -/
def OutR {α : Type} [Inhabited α] (m : Nat) (cell : α → Nat → Value) (w : World) (l : List α) (rest : List Value) (e : Ending) (w' : World) : Prop :=
  ∃ a cap, e = .returned (.tuple (.slice a l.length cap :: rest).toArray) ∧ l.length ≤ cap ∧ RowsAt m cell w' a l ∧ Ext w w'
theorem OutS.read {α : Type} [Inhabited α] {T m : Nat} {cell : α → Nat → Value} {w w' : World} {l : List α} {rest : List Value} {e : Ending} (h : OutS T m cell w l rest e w') : OutR m cell w l rest e w' := by
  obtain ⟨a, cap, h1, h2, -, h3, h4⟩ := h; exact ⟨a, cap, h1, h2, h3, h4⟩
theorem OutS.nil {α : Type} [Inhabited α] {T m : Nat} {cell : α → Nat → Value} {w w' : World} {rest : List Value} {e : Ending} (a : Option Addr) (cap : Nat) (he : e = .returned (.tuple (.slice a 0 cap :: rest).toArray)) (hE : Ext w w') : OutS T m cell w ([] : List α) rest e w' :=
  ⟨a, cap, he, Nat.zero_le _, .inl rfl, RowsAt.nil, hE⟩
theorem OutS.mk {α : Type} [Inhabited α] {T m : Nat} {cell : α → Nat → Value} {w w' : World} {l : List α} {rest : List Value} {e : Ending} {a : Option Addr} {cap : Nat} (he : e = .returned (.tuple (.slice a l.length cap :: rest).toArray)) (hc : l.length ≤ cap) (ho : Own w' w.heap.size T m a l.length) (hr : RowsAt m cell w' a l) (hE : Ext w w') : OutS T m cell w l rest e w' := ⟨a, cap, he, hc, ho, hr, hE⟩
/-- An owned row of one-cell elements, seen as a slice of its own. -/
theorem own_of_row {α : Type} [Inhabited α] {w : World} {base T n : Nat} {v : Value} {l : List α} {f : α → Value} (h : w.ownsRow base T 1 v n (l.map f)) (hn : n = l.length) :
    ∃ a cap, v = .slice a l.length cap ∧ l.length ≤ cap ∧ Own w base T 1 a l.length ∧ RowsAt 1 (fun x _ => f x) w a l := by
  subst hn
  obtain ⟨a, cap, rfl, hc, hm, hl, hcell⟩ := ownsRow_shape h
  refine ⟨a, cap, rfl, hc, ?_, fun k hk => ?_⟩
  · rcases h.2 with ⟨he, h0⟩ | ⟨g, cap', cur, he, hg, hh, hc', hm', hs, ht⟩
    · simp only [Value.slice.injEq] at he
      exact .inl (by omega)
    · simp only [Value.slice.injEq] at he
      obtain ⟨rfl, -, rfl⟩ := he
      exact .inr ⟨g, _, rfl, hg, ⟨cur, hh, rfl⟩, by omega⟩
  · obtain ⟨g, rfl, hb, hl', hcl⟩ := hcell k hk
    refine ⟨g, 0, rfl, hl', fun j hj => ?_⟩
    obtain rfl : j = 0 := by omega
    rw [Nat.zero_add, Nat.mul_one, Nat.add_zero, hcl, List.getElem?_map, List.getElem?_eq_getElem hk, nth_eq l k hk]; rfl
theorem Own.low {w : World} {base base' T m n : Nat} {a : Option Addr} (h : Own w base T m a n) (hb : base' ≤ base) : Own w base' T m a n := by
  rcases h with h | ⟨g, N, e, h1, hB, hn⟩
  · exact .inl h
  · exact .inr ⟨g, N, e, Nat.le_trans hb h1, hB, hn⟩
end Go.Proofs.YtmkmmenkjbmppaaDoor

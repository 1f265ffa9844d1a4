/- Lists of versions: how they lie, what they hold, when a history is valid. -/
import Derived.Test.YtbcpgdidajapoaaDoorVersion
import Derived.Test.YtbcpgdidajapoaaDoorMark
import Derived.Test.YtbcpgdidajapoaaDoorHelpVersion
namespace Go.Proofs.YtbcpgdidajapoaaDoor
open Go.RowKit
/-- A version without the place of its state. -/
structure VerP where
  number : Int
  parent : Int
  memo : ByteArray
  state : List Setting
instance : Inhabited VerP := ⟨⟨0, 0, ByteArray.empty, []⟩⟩
def Version.strip (x : Version) : VerP := ⟨x.number, x.parent, x.memo, x.state⟩
def strips (l : List Version) : List VerP := l.map Version.strip
theorem strips_len (l : List Version) : (strips l).length = l.length := by unfold strips; simp
theorem nth_strips {l : List Version} {k : Nat} (hk : k < l.length) : nth (strips l) k = (nth l k).strip := by
  rw [nth_eq _ _ (by rw [strips_len]; exact hk), nth_eq l k hk]; simp [strips]
theorem strips_at {l l2 : List Version} (h : strips l = strips l2) {k : Nat} (hk : k < l.length) : (nth l k).Same (nth l2 k) := by
  have h2 : k < l2.length := by rw [← strips_len l2, ← h, strips_len]; exact hk
  have e := congrArg (fun L => nth L k) h
  simp only [nth_strips hk, nth_strips h2, Version.strip, VerP.mk.injEq] at e
  exact e
theorem strips_length {l l2 : List Version} (h : strips l = strips l2) : l.length = l2.length := by rw [← strips_len l, h, strips_len]
theorem strips_append (l m : List Version) : strips (l ++ m) = strips l ++ strips m := by unfold strips; simp
/-- A slice of versions begins at a, its elements hold l, their states lie where they say. -/
structure VersAt (w : World) (a : Option Addr) (l : List Version) : Prop where
  row : RowsAt 4 Version.cell w a l
  inn : ∀ k, k < l.length → (nth l k).In w
  cap : ∀ k, k < l.length → (nth l k).state.length ≤ (nth l k).cap
theorem VersAt.ext {w w' : World} {a : Option Addr} {l : List Version} (h : VersAt w a l) (he : Ext w w') : VersAt w' a l :=
  ⟨h.row.ext he, fun k hk => (h.inn k hk).ext he, h.cap⟩
theorem Version.at {w : World} {b off : Nat} {l : List Version} (h : RowsAt 4 Version.cell w (some ⟨b, off, none⟩) l) (k : Nat) (hk : k < l.length) :
    b < w.heap.size ∧ w.cell? ⟨b, off + k * 4, none⟩ = some (.int .i64 (nth l k).number) ∧ w.cell? ⟨b, off + k * 4 + 1, none⟩ = some (.int .i64 (nth l k).parent) ∧ w.cell? ⟨b, off + k * 4 + 2, none⟩ = some (.string (nth l k).memo) ∧ w.cell? ⟨b, off + k * 4 + 3, none⟩ = some (.slice (nth l k).addr (nth l k).state.length (nth l k).cap) :=
  let h' := RowsAt.at h k hk; ⟨h'.1, h'.2 0 (by decide), h'.2 1 (by decide), h'.2 2 (by decide), h'.2 3 (by decide)⟩
/-! ### Writing into some blocks only -/
/-- w' is w, grown, but for blocks from lo up to hi. -/
structure Mid (lo hi : Nat) (w w' : World) : Prop where
  os : w'.os = w.os
  tape : w'.tape = w.tape
  output : w'.output = w.output
  size : w.heap.size ≤ w'.heap.size
  block : ∀ k, k < w.heap.size → (k < lo ∨ hi ≤ k) → w'.heap[k]? = w.heap[k]?
section
variable {lo hi : Nat} {w w' w'' : World}
theorem Mid.refl (lo hi : Nat) (w : World) : Mid lo hi w w := ⟨rfl, rfl, rfl, Nat.le_refl _, fun _ _ _ => rfl⟩
theorem Mid.trans (h : Mid lo hi w w') (k : Mid lo hi w' w'') : Mid lo hi w w'' :=
  ⟨k.os.trans h.os, k.tape.trans h.tape, k.output.trans h.output, Nat.le_trans h.size k.size, fun i hi hn => (k.block i (Nat.lt_of_lt_of_le hi h.size) hn).trans (h.block i hi hn)⟩
theorem Mid.of_chg {d : Option Addr} (h : Chg d w w') (hd : ∀ g o s, d = some ⟨g, o, s⟩ → lo ≤ g ∧ g < hi) : Mid lo hi w w' :=
  ⟨h.os, h.tape, h.output, h.size, fun k hk hn => h.block k hk (fun g o s e => by have := hd g o s e; omega)⟩
theorem Mid.since {w0 : World} (h : Mid lo hi w w') (he : Ext w0 w) (h0 : w0.heap.size ≤ lo) : Ext w0 w' :=
  .of_below ⟨h.os.trans he.below.os, h.tape.trans he.below.tape, h.output.trans he.below.output, Nat.le_trans he.size h.size, fun i hi => by
    rw [h.block i (Nat.lt_of_lt_of_le hi he.size) (.inl (by omega))]; exact he.below.block i hi⟩
theorem Mid.cell (h : Mid lo hi w w') {b o : Nat} {v : Value} (hb : b < lo ∨ hi ≤ b) (hc : w.cell? ⟨b, o, none⟩ = some v) : w'.cell? ⟨b, o, none⟩ = some v := by
  rw [← hc]; exact World.cell?_of_block (w := w) (h.block b (block_lt hc) hb)
theorem Blk.mid {g T n : Nat} (h : Blk w g T n) (hm : Mid lo hi w w') (hb : g < lo ∨ hi ≤ g) : Blk w' g T n := by
  have hl := h.lt
  obtain ⟨cs, h, e⟩ := h
  exact ⟨cs, by rw [hm.block g hl hb]; exact h, e⟩
theorem Own.mid {base T m n : Nat} {a : Option Addr} (h : Own w base T m a n) (hm : Mid lo hi w w') (hb : hi ≤ base) : Own w' base T m a n := by
  rcases h with h | ⟨g, N, e, hg, hB, hn⟩
  · exact .inl h
  · exact .inr ⟨g, N, e, hg, hB.mid hm (.inr (by omega)), hn⟩
theorem RowsAt.mid {α : Type} [Inhabited α] {m m' base T : Nat} {cell : α → Nat → Value} {a : Option Addr} {l : List α} (h : RowsAt m cell w a l) (ho : Own w base T m' a l.length) (hm : Mid lo hi w w') (hb : hi ≤ base) : RowsAt m cell w' a l := fun k hk => by
  obtain ⟨b, off, e, hl, hc⟩ := h k hk
  refine ⟨b, off, e, Nat.lt_of_lt_of_le hl hm.size, fun j hj => hm.cell (.inr ?_) (hc j hj)⟩
  have := (ho.block (show ownA l.length a = some ⟨b, off, none⟩ by rw [ownA_pos (by omega), e])).1
  omega
theorem Own.chg {base T m n : Nat} {a d : Option Addr} (h : Own w base T m a n) (hc : Chg d w w') (hne : ∀ g o s, ownA n a = some ⟨g, o, s⟩ → ∀ g' o' s', d = some ⟨g', o', s'⟩ → g ≠ g') : Own w' base T m a n := by
  rcases Nat.eq_zero_or_pos n with h0 | h0
  · exact .inl h0
  · rcases h with h | ⟨g, N, e, hg, hB, hn⟩
    · exact .inl h
    · exact .inr ⟨g, N, e, hg, hB.chg hc (fun g' o' s' e' => hne g 0 none (by rw [ownA_pos h0, e]) g' o' s' e'), hn⟩
theorem RowsAt.chgO {α : Type} [Inhabited α] {m : Nat} {cell : α → Nat → Value} {a d : Option Addr} {l : List α} (h : RowsAt m cell w a l) (hc : Chg d w w') (hne : ∀ g o s, ownA l.length a = some ⟨g, o, s⟩ → ∀ g' o' s', d = some ⟨g', o', s'⟩ → g ≠ g') : RowsAt m cell w' a l := fun k hk => by
  obtain ⟨b, off, e, hl, h'⟩ := h k hk
  exact ⟨b, off, e, Nat.lt_of_lt_of_le hl hc.size, fun j hj => hc.cell (fun g' o' s' e' => hne b off none (by rw [ownA_pos (by omega), e]) g' o' s' e') (h' j hj)⟩
end
/-! ### A list of versions that is the call's own -/
structure OVer (w : World) (base : Nat) (a : Option Addr) (l : List Version) : Prop where
  own : Own w base 48 4 a l.length
  slc : ∀ k, k < l.length → ∀ g, a = some ⟨g, 0, none⟩ → w.cell? ⟨g, k * 4 + 3, none⟩ = some (.slice (nth l k).addr (nth l k).state.length (nth l k).cap)
  inn : ∀ k, k < l.length → Own w base 57 2 (nth l k).addr (nth l k).state.length
  far : ∀ k, k < l.length → ∀ g o s, ownA (nth l k).state.length (nth l k).addr = some ⟨g, o, s⟩ → ∀ g' o' s', a = some ⟨g', o', s'⟩ → g ≠ g'
  apart : ∀ i j, i < l.length → j < l.length → i ≠ j → ∀ g o s g' o' s', ownA (nth l i).state.length (nth l i).addr = some ⟨g, o, s⟩ → ownA (nth l j).state.length (nth l j).addr = some ⟨g', o', s'⟩ → g ≠ g'
/-- All blocks of the list lie below hi. -/
def OTop (hi : Nat) (a : Option Addr) (l : List Version) : Prop :=
  (∀ g o s, ownA l.length a = some ⟨g, o, s⟩ → g < hi) ∧ ∀ k, k < l.length → ∀ g o s, ownA (nth l k).state.length (nth l k).addr = some ⟨g, o, s⟩ → g < hi
section
variable {w w' : World} {base : Nat} {a : Option Addr} {l : List Version}
theorem OVer.ext (h : OVer w base a l) (he : Ext w w') : OVer w' base a l :=
  ⟨h.own.ext he, fun k hk g e => he.cell (h.slc k hk g e), fun k hk => (h.inn k hk).ext he, h.far, h.apart⟩
theorem OVer.mid {lo hi : Nat} (h : OVer w base a l) (hm : Mid lo hi w w') (hb : hi ≤ base) : OVer w' base a l :=
  ⟨h.own.mid hm hb, fun k hk g e => hm.cell (.inr (by
    have := (h.own.block (show ownA l.length a = some ⟨g, 0, none⟩ by rw [ownA_pos (by omega), e])).1
    omega)) (h.slc k hk g e), fun k hk => (h.inn k hk).mid hm hb, h.far, h.apart⟩
theorem OVer.top (h : OVer w base a l) : OTop w.heap.size a l :=
  ⟨fun _ _ _ e => (h.own.block e).2, fun k hk _ _ _ e => ((h.inn k hk).block e).2⟩
theorem OTop.mono {hi hi' : Nat} (h : OTop hi a l) (hh : hi ≤ hi') : OTop hi' a l :=
  ⟨fun g o s e => Nat.lt_of_lt_of_le (h.1 g o s e) hh, fun k hk g o s e => Nat.lt_of_lt_of_le (h.2 k hk g o s e) hh⟩
end
/-- A list of versions of the call's own, with what it holds. -/
structure VRes (w : World) (base : Nat) (a : Option Addr) (l : List Version) : Prop where
  at' : VersAt w a l
  own : OVer w base a l
theorem VRes.ext {w w' : World} {base : Nat} {a : Option Addr} {l : List Version} (h : VRes w base a l) (he : Ext w w') : VRes w' base a l := ⟨h.at'.ext he, h.own.ext he⟩
theorem VRes.mid {lo hi : Nat} {w w' : World} {base : Nat} {a : Option Addr} {l : List Version} (h : VRes w base a l) (hm : Mid lo hi w w') (hb : hi ≤ base) : VRes w' base a l :=
  ⟨⟨h.at'.row.mid h.own.own hm hb, fun k hk => RowsAt.mid (h.at'.inn k hk) (h.own.inn k hk) hm hb, h.at'.cap⟩, h.own.mid hm hb⟩
/-! ### Marks -/
/-- How many marks the first versions have. -/
def offV (l : List Version) : Nat → Nat
  | 0 => 0
  | k + 1 => offV l k + (3 + 2 * (nth l k).state.length)
theorem offV_mono {l : List Version} {i : Nat} : ∀ {j : Nat}, i ≤ j → offV l i ≤ offV l j
  | 0, h => by obtain rfl : i = 0 := by omega
               exact Nat.le_refl _
  | j + 1, h => by
    rcases Nat.lt_or_ge i (j + 1) with h1 | h1
    · have := offV_mono (l := l) (i := i) (j := j) (by omega); show _ ≤ offV l j + _; omega
    · obtain rfl : i = j + 1 := by omega
      exact Nat.le_refl _
end Go.Proofs.YtbcpgdidajapoaaDoor

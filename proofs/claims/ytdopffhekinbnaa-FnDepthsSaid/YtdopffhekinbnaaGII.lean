/- Lists of lists of numbers that a call builds, in which each inner list may still grow. No conditions. -/
import Derived.Test.YtdopffhekinbnaaIIB
import Derived.Test.YtdopffhekinbnaaElI
import Derived.Test.YtdopffhekinbnaaLstP
namespace Go.Proofs.Ytdopffhekinbnaa
open Go.RowKit
def Sl.val (s : Sl) : Value := .slice s.ad s.n s.c
theorem Lst.side {α : Type} {T n : Nat} {cell : α → Nat → Value} {base : Nat} {w w' : World} {v : Value} {l : List α} {row : Option Nat} (h : Lst T n cell w base v l) (hg : w.grownBy w' row) (hne : ∀ g, v.ownBlock = some g → row ≠ some g) : Lst T n cell w' base v l := by
  refine ⟨h.1, ?_⟩
  rcases h.2 with h2 | ⟨g, cap, cur, hv, hgb, hh, r⟩
  · exact .inl h2
  · have hlt : g < w.heap.size := by
      rcases Nat.lt_or_ge g w.heap.size with h1 | h1
      · exact h1
      · rw [Array.getElem?_eq_none h1] at hh; cases hh
    exact .inr ⟨g, cap, cur, hv, hgb, by rw [hg.block g hlt (fun e => hne g (by rw [hv]; rfl) e.symm)]; exact hh, r⟩
theorem nth_set {α : Type} [Inhabited α] {l : List α} {k j : Nat} {x : α} (hk : k < l.length) : nth (l.set k x) j = if j = k then x else nth l j := by
  by_cases h : j = k
  · subst h
    rw [if_pos rfl, nth_eq _ _ (by rw [List.length_set]; exact hk), List.getElem_set_self]
  · rw [if_neg h]
    unfold nth
    rw [List.getD_eq_getElem?_getD, List.getD_eq_getElem?_getD, List.getElem?_set_ne (Ne.symm h)]
theorem nthG_pre {α : Type} [Inhabited α] {l : List α} {x : α} {j : Nat} (h : j < l.length) : nth (l ++ [x]) j = nth l j := by simp [nth, List.getElem?_append_left h]
theorem nthG_last {α : Type} [Inhabited α] {l : List α} {x : α} {j : Nat} (h : j = l.length) : nth (l ++ [x]) j = x := by subst h; simp [nth]
/-- v is a list of lists of the call's own; vs are its slices. -/
structure GII (w : World) (base : Nat) (v : Value) (L : List (List Int)) (vs : List Sl) : Prop where
  lst : Lst 38 1 cellV w base v vs
  len : vs.length = L.length
  inn : ∀ k, k < L.length → Lst 2 1 celI w base (nth vs k).val (nth L k)
  far : ∀ k, k < L.length → ∀ g, (nth vs k).val.ownBlock = some g → v.ownBlock ≠ some g
  apart : ∀ i j, i < L.length → j < L.length → i ≠ j → ∀ g, (nth vs i).val.ownBlock = some g → (nth vs j).val.ownBlock ≠ some g
section
variable {w w' W w3 : World} {base : Nat} {v v3 : Value} {L : List (List Int)} {vs : List Sl}
theorem GII.none0 (h : Lst 38 1 cellV w base v ([] : List Sl)) : GII w base v [] [] :=
  ⟨h, rfl, fun _ h => absurd h (Nat.not_lt_zero _), fun _ h => absurd h (Nat.not_lt_zero _), fun _ _ h => absurd h (Nat.not_lt_zero _)⟩
theorem GII.ext (h : GII w base v L vs) (he : Ext w w') : GII w' base v L vs :=
  ⟨h.lst.ext he, h.len, fun k hk => (h.inn k hk).ext he, h.far, h.apart⟩
/-- A list has been appended. -/
theorem GII.push {s : Sl} {x : List Int} (h : GII w base v L vs) (hE : Ext w W) (hx : Lst 2 1 celI W base s.val x) (hnew : ∀ g, s.val.ownBlock = some g → w.heap.size ≤ g)
    (hL : Lst 38 1 cellV w3 base v3 (vs ++ [s])) (hgr : W.grownBy w3 v.ownBlock) (hat : v3.ownBlock = v.ownBlock ∨ v3.ownBlock = some W.heap.size) : GII w3 base v3 (L ++ [x]) (vs ++ [s]) := by
  have hsp : ∀ k, k < (L ++ [x]).length → k < L.length ∨ k = L.length := fun k hk => by rw [List.length_append] at hk; simp only [List.length_cons, List.length_nil] at hk; omega
  have hlt : ∀ k, k < L.length → ∀ g, (nth vs k).val.ownBlock = some g → g < w.heap.size := fun k hk g e => (h.inn k hk).lt g e
  have hvl : ∀ g, v.ownBlock = some g → g < w.heap.size := fun g e => h.lst.lt g e
  have hsl : ∀ g, s.val.ownBlock = some g → g < W.heap.size := fun g e => hx.lt g e
  have hWs := hE.size
  have ep : ∀ {k}, k < L.length → nth (vs ++ [s]) k = nth vs k := fun hk => nthG_pre (by rw [h.len]; exact hk)
  have el : nth (vs ++ [s]) L.length = s := nthG_last h.len.symm
  refine ⟨hL, by rw [List.length_append, List.length_append, h.len]; rfl, fun k hk => ?_, fun k hk g e => ?_, fun i j hi hj hij g e => ?_⟩
  · rcases hsp k hk with h1 | rfl
    · rw [ep h1, nthG_pre h1]
      exact ((h.inn k h1).ext hE).side hgr (fun g e e2 => h.far k h1 g e e2)
    · rw [el, nthG_last rfl]
      exact hx.side hgr (fun g e e2 => by have := hnew g e; have := hvl g e2; omega)
  · rcases hsp k hk with h1 | rfl
    · rw [ep h1] at e
      have := hlt k h1 g e
      rcases hat with q | q
      · rw [q]; exact h.far k h1 g e
      · rw [q]; intro e2; simp only [Option.some.injEq] at e2; omega
    · rw [el] at e
      have := hnew g e
      have := hsl g e
      rcases hat with q | q
      · rw [q]; intro e2; have := hvl g e2; omega
      · rw [q]; intro e2; simp only [Option.some.injEq] at e2; omega
  · rcases hsp i hi with h1 | rfl <;> rcases hsp j hj with h2 | rfl
    · rw [ep h1] at e; rw [ep h2]; exact h.apart i j h1 h2 hij g e
    · rw [ep h1] at e; rw [el]
      intro e2
      have := hlt i h1 g e
      have := hnew g e2
      omega
    · rw [el] at e; rw [ep h2]
      intro e2
      have := hlt j h2 g e2
      have := hnew g e
      omega
    · omega
/-- The block of a list that is not empty. -/
theorem GII.block (h : GII w base v L vs) {k : Nat} (hk : k < L.length) : ∃ g cap, v = .slice (some ⟨g, 0, none⟩) L.length cap ∧ base ≤ g ∧ Blk w g 38 cap ∧ L.length ≤ cap ∧ RowsAt 1 cellV w (some ⟨g, 0, none⟩) vs := by
  obtain ⟨g, cap, rfl, hg, hB, hR, hc, -⟩ := h.lst.parts (by rw [h.len]; omega)
  rw [Nat.mul_one] at hB
  exact ⟨g, cap, by rw [h.len], hg, hB, by rw [← h.len]; exact hc, hR⟩
/-- One of the lists has grown, and its slice has been written back. -/
theorem GII.grow {k g cap : Nat} {s : Sl} {x : List Int} (h : GII w base (.slice (some ⟨g, 0, none⟩) L.length cap) L vs) (hk : k < L.length) (hE : Ext w W) (hgr : W.grownBy w3 (nth vs k).val.ownBlock) (hx : Lst 2 1 celI w3 base s.val x)
    (hat : ∀ b, s.val.ownBlock = some b → (nth vs k).val.ownBlock = some b ∨ w.heap.size ≤ b) : GII (w3.setCell ⟨g, k, none⟩ (.slice s.ad s.n s.c)) base (.slice (some ⟨g, 0, none⟩) (L.set k x).length cap) (L.set k x) (vs.set k s) := by
  have hkv : k < vs.length := by rw [h.len]; exact hk
  have hown : (Value.slice (some ⟨g, 0, none⟩) L.length cap).ownBlock = some g := rfl
  have hgl : g < w.heap.size := h.lst.lt g rfl
  have hlt : ∀ k, k < L.length → ∀ g, (nth vs k).val.ownBlock = some g → g < w.heap.size := fun k hk g e => (h.inn k hk).lt g e
  have hWs := hE.size
  have hneg : ∀ j, j < L.length → ∀ b, (nth vs j).val.ownBlock = some b → b ≠ g := fun j hj b e e2 => h.far j hj b e (by rw [hown, e2])
  have hsg : ∀ b, s.val.ownBlock = some b → b ≠ g := fun b e => by
    rcases hat b e with q | q
    · exact hneg k hk b q
    · omega
  have hl3 : Lst 38 1 cellV w3 base (.slice (some ⟨g, 0, none⟩) L.length cap) vs := (h.lst.ext hE).side hgr (fun b e e2 => h.far k hk b e2 e)
  obtain ⟨g', cap', e, hg, hB, hR, hc, hm⟩ := hl3.parts (by omega)
  simp only [Value.slice.injEq, Option.some.injEq, Addr.mk.injEq, and_true] at e
  obtain ⟨rfl, -, rfl⟩ := e
  have hc1 : ∀ j, j < 1 → [Value.slice s.ad s.n s.c][j]? = some (cellV s j) := fun j hj => by
    have : j = 0 := by omega
    subst this; rfl
  have hp := Lst.put (n := 1) hg hB hR hc hm hkv s [.slice s.ad s.n s.c] rfl hc1
  rw [Nat.mul_one, List.length_set, h.len] at hp
  refine ⟨by rw [List.length_set]; exact hp, by rw [List.length_set, List.length_set, h.len], fun j hj => ?_, fun j hj b e e2 => ?_, fun i j hi hj hij b e => ?_⟩
  · rw [List.length_set] at hj
    rw [nth_set hkv, nth_set hk]
    by_cases q : j = k
    · rw [if_pos q, if_pos q]; exact hx.setN hsg _
    · rw [if_neg q, if_neg q]
      exact (((h.inn j hj).ext hE).side hgr (fun b e e2 => h.apart k j hk hj (Ne.symm q) b e2 e)).setN (hneg j hj) _
  · rw [List.length_set] at hj
    rw [nth_set hkv] at e
    have e2' : some g = some b := e2
    simp only [Option.some.injEq] at e2'
    by_cases q : j = k
    · rw [if_pos q] at e; exact hsg b e e2'.symm
    · rw [if_neg q] at e; exact hneg j hj b e e2'.symm
  · rw [List.length_set] at hi hj
    rw [nth_set hkv] at e ⊢
    by_cases q : i = k <;> by_cases q2 : j = k
    · omega
    · rw [if_pos q] at e; rw [if_neg q2]
      intro e2
      rcases hat b e with r | r
      · exact h.apart k j hk hj (Ne.symm q2) b r e2
      · have := hlt j hj b e2; omega
    · rw [if_neg q] at e; rw [if_pos q2]
      intro e2
      rcases hat b e2 with r | r
      · exact h.apart i k hi hk q b e r
      · have := hlt i hi b e; omega
    · rw [if_neg q] at e; rw [if_neg q2]; exact h.apart i j hi hj hij b e
/-- One of the lists has been written, its slice as before. -/
theorem GII.turned {k : Nat} {x : List Int} (h : GII w base v L vs) (hk : k < L.length) (hgr : w.grownBy w3 (nth vs k).val.ownBlock) (hx : Lst 2 1 celI w3 base (nth vs k).val x) : GII w3 base v (L.set k x) vs := by
  refine ⟨h.lst.side hgr (fun b e e2 => h.far k hk b e2 e), by rw [List.length_set, h.len], fun j hj => ?_, fun j hj => ?_, fun i j hi hj => ?_⟩
  · rw [List.length_set] at hj
    rw [nth_set hk]
    by_cases q : j = k
    · subst q; rw [if_pos rfl]; exact hx
    · rw [if_neg q]; exact (h.inn j hj).side hgr (fun b e e2 => h.apart k j hk hj (Ne.symm q) b e2 e)
  · rw [List.length_set] at hj; exact h.far j hj
  · rw [List.length_set] at hi hj; exact h.apart i j hi hj
/-- If no list is empty, each has a block of its own. -/
theorem GII.bii (h : GII w base v L vs) (hpos : ∀ k, k < L.length → 0 < (nth L k).length) : ∃ gs, BII w base v L vs gs := by
  have hp : ∀ k, k < L.length → ∃ g cap, (nth vs k).val = .slice (some ⟨g, 0, none⟩) (nth L k).length cap ∧ base ≤ g ∧ Blk w g 2 cap ∧ (nth L k).length ≤ cap ∧ IntAt w (some ⟨g, 0, none⟩) (nth L k) := fun k hk => by
    obtain ⟨g, cap, e, hg, hB, hR, hc, -⟩ := (h.inn k hk).parts (hpos k hk)
    rw [Nat.mul_one] at hB
    exact ⟨g, cap, e, hg, hB, hc, hR⟩
  refine ⟨fun k => (nth vs k).val.ownBlock.getD 0, ⟨h.lst, h.len, fun k hk => ?_, fun k hk => ?_, fun k hk => ?_, fun k hk => ?_, fun k hk => ?_, fun i j hi hj hij => ?_⟩⟩
  · obtain ⟨g, cap, e, -, -, hc, -⟩ := hp k hk
    refine ⟨cap, ?_, hc⟩
    rw [e]
    unfold Sl.val at e
    simp only [Value.slice.injEq] at e
    show nth vs k = ⟨some ⟨g, 0, none⟩, _, _⟩
    rw [← e.1, ← e.2.1, ← e.2.2]
  · obtain ⟨g, cap, e, hg, -⟩ := hp k hk
    show base ≤ _
    rw [e]; exact hg
  · obtain ⟨g, cap, e, -, hB, hc, -⟩ := hp k hk
    refine ⟨cap, ?_, hc⟩
    show Blk w ((nth vs k).val.ownBlock.getD 0) _ _
    rw [e]; exact hB
  · obtain ⟨g, cap, e, -, -, -, hR⟩ := hp k hk
    show IntAt w (some ⟨(nth vs k).val.ownBlock.getD 0, 0, none⟩) _
    rw [e]; exact hR
  · obtain ⟨g, cap, e, -⟩ := hp k hk
    show v.ownBlock ≠ some ((nth vs k).val.ownBlock.getD 0)
    have := h.far k hk g (by rw [e]; rfl)
    rw [e]; exact this
  · obtain ⟨g, cap, e, -⟩ := hp i hi
    obtain ⟨g2, cap2, e2, -⟩ := hp j hj
    show (nth vs i).val.ownBlock.getD 0 ≠ (nth vs j).val.ownBlock.getD 0
    have := h.apart i j hi hj hij g (by rw [e]; rfl)
    rw [e2] at this
    rw [e, e2]
    intro q; exact this (by
      show some g2 = some g
      rw [show g = g2 from q])
theorem BII.low' {gs : Nat → Nat} {b0 : Nat} (h : BII w base v L vs gs) (hb : b0 ≤ base) : BII w b0 v L vs gs :=
  ⟨h.lst.low hb, h.len, h.val, fun k hk => Nat.le_trans hb (h.low k hk), h.blk, h.row, h.far, h.apart⟩
end
end Go.Proofs.Ytdopffhekinbnaa

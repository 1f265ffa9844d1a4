/- Lists of lists that a call builds: they grow by one list at a time. -/
import Derived.Test.YtmkmmenkjbmppaaDoorII
import Derived.Test.YtmkmmenkjbmppaaDoorSrch
namespace Go.Proofs.YtmkmmenkjbmppaaDoor
open Go.RowKit
theorem elII : El Tryd.prog 24 27 1 24 := El.mk' Tryd.underlying24 (by kernel_rfl) (by decide)
/-- v is a list of lists of the call's own. -/
structure BII (w : World) (base : Nat) (v : Value) (L : List (List Int)) (vs : List Sl) (gs : Nat → Nat) : Prop where
  lst : Lst 27 1 cellV w base v vs
  len : vs.length = L.length
  val : ∀ k, k < L.length → ∃ cp, nth vs k = ⟨some ⟨gs k, 0, none⟩, (nth L k).length, cp⟩ ∧ (nth L k).length ≤ cp
  low : ∀ k, k < L.length → base ≤ gs k
  blk : ∀ k, k < L.length → ∃ N, Blk w (gs k) 2 N ∧ (nth L k).length ≤ N
  row : ∀ k, k < L.length → IntAt w (some ⟨gs k, 0, none⟩) (nth L k)
  far : ∀ k, k < L.length → v.ownBlock ≠ some (gs k)
  apart : ∀ i j, i < L.length → j < L.length → i ≠ j → gs i ≠ gs j
section
variable {w w' : World} {base : Nat} {v : Value} {L : List (List Int)} {vs : List Sl} {gs : Nat → Nat}
theorem BII.nil (w : World) (base : Nat) (gs : Nat → Nat) : BII w base (.slice none 0 0) [] [] gs :=
  ⟨Lst.nil _ _, rfl, fun _ h => absurd h (Nat.not_lt_zero _), fun _ h => absurd h (Nat.not_lt_zero _), fun _ h => absurd h (Nat.not_lt_zero _), fun _ h => absurd h (Nat.not_lt_zero _), fun _ h => absurd h (Nat.not_lt_zero _), fun _ _ h => absurd h (Nat.not_lt_zero _)⟩
theorem BII.ext (h : BII w base v L vs gs) (he : Ext w w') : BII w' base v L vs gs :=
  ⟨h.lst.ext he, h.len, h.val, h.low, fun k hk => by obtain ⟨N, hB, hn⟩ := h.blk k hk; exact ⟨N, hB.ext he, hn⟩, fun k hk => (h.row k hk).ext he, h.far, h.apart⟩
theorem BII.new (w : World) (base n : Nat) (gs : Nat → Nat) (hb : base ≤ w.heap.size) (hn : n = w.heap.size) : BII (w.alloc (.cells #[] 27)) base (.slice (some ⟨n, 0, none⟩) 0 0) [] [] gs := by
  subst hn
  exact ⟨Lst.new w base hb, rfl, fun _ h => absurd h (Nat.not_lt_zero _), fun _ h => absurd h (Nat.not_lt_zero _), fun _ h => absurd h (Nat.not_lt_zero _), fun _ h => absurd h (Nat.not_lt_zero _), fun _ h => absurd h (Nat.not_lt_zero _), fun _ _ h => absurd h (Nat.not_lt_zero _)⟩
/-- As a result: the outer slice, and how all lies. -/
theorem BII.out (h : BII w base v L vs gs) : ∃ a cap, v = .slice a L.length cap ∧ L.length ≤ cap ∧ IIs w a L vs ∧ (0 < L.length → OII w base a L vs gs) ∧ Own w base 27 1 a L.length := by
  obtain ⟨a, cap, rfl, hc, hm, hR, hO⟩ := h.lst.shape
  rw [h.len] at hc hO
  refine ⟨a, cap, by rw [h.len], hc, ⟨h.len, hR, fun k hk => ?_⟩, fun hp => ⟨h.len, hR, h.val, h.low, h.blk, fun k hk b o s e => ?_, h.apart⟩, hO⟩
  · obtain ⟨cp, e, hcp⟩ := h.val k hk
    exact ⟨_, cp, e, hcp, h.row k hk⟩
  · have := h.far k hk
    subst e
    simp only [Value.ownBlock] at this
    intro e2; exact this (by rw [e2])
theorem BII.iis {a : Option Addr} {n c : Nat} (h : BII w base (.slice a n c) L vs gs) : IIs w a L vs := by
  obtain ⟨a', c', e, -, h1, -, -⟩ := h.out
  simp only [Value.slice.injEq] at e
  obtain ⟨rfl, -, -⟩ := e
  exact h1
theorem BII.oii {a : Option Addr} {n c : Nat} (h : BII w base (.slice a n c) L vs gs) : OII w base a L vs gs :=
  ⟨h.len, h.iis.row, h.val, h.low, h.blk, fun k hk b o s e e2 => h.far k hk (by rw [e]; simp only [Value.ownBlock, e2]), h.apart⟩
theorem Lst.marked {α : Type} {n T : Nat} {cell : α → Nat → Value} {l : List α} {d : Option Addr} (h : Lst T n cell w base v l) (hc : Chg d w w') (hd : ∀ g o s, d = some ⟨g, o, s⟩ → g < base) : Lst T n cell w' base v l := by
  have hlt := ownsRow_lt h
  refine ⟨h.1, ?_⟩
  rcases h.2 with h2 | ⟨g, cap, cur, hv, hg, hh, r⟩
  · exact .inl h2
  · exact .inr ⟨g, cap, cur, hv, hg, by rw [hc.block g (hlt g (by rw [hv]; rfl)) (fun g' o s e => by have := hd g' o s e; omega)]; exact hh, r⟩
/-- Marks below. -/
theorem BII.marked {d : Option Addr} (h : BII w base v L vs gs) (hc : Chg d w w') (hd : ∀ g o s, d = some ⟨g, o, s⟩ → g < base) : BII w' base v L vs gs :=
  ⟨h.lst.marked hc hd, h.len, h.val, h.low, fun k hk => by
    obtain ⟨N, hB, hn⟩ := h.blk k hk
    exact ⟨N, hB.chg hc (fun g o s e => by have := hd g o s e; have := h.low k hk; omega), hn⟩, fun k hk i hi => by
    obtain ⟨b, off, e, hb, hcell⟩ := h.row k hk i hi
    have e' := e
    simp only [Option.some.injEq, Addr.mk.injEq, and_true] at e'
    obtain ⟨rfl, rfl⟩ := e'
    exact ⟨_, _, rfl, Nat.lt_of_lt_of_le hb hc.size, fun j hj => hc.cell (fun g o s e => by have := hd g o s e; have := h.low k hk; omega) (hcell j hj)⟩, h.far, h.apart⟩
theorem marksII.ext {k : Int} {m : Nat} (h : marksII w L gs k m) (he : Ext w w') : marksII w' L gs k m := fun i hi => (h i hi).ext he
/-- Sizes of a list of lists that a law asks. -/
structure GoodII (L : List (List Int)) : Prop where
  len : L.length ≤ 100000
  sum : tot L L.length ≤ 100000000
  pos : ∀ k, k < L.length → 0 < (nth L k).length
  inn : ∀ k, k < L.length → (nth L k).length ≤ 9223372036854775807
theorem tot_le {L : List (List Int)} {m : Nat} (h : ∀ k, k < L.length → (nth L k).length ≤ m) : ∀ j, j ≤ L.length → tot L j ≤ j * m
  | 0, _ => by simp [tot]
  | j + 1, hj => by
    have := tot_le h j (by omega)
    have := h j (by omega)
    have e : (j + 1) * m = j * m + m := Nat.succ_mul j m
    show tot L j + _ ≤ _
    omega
/-- The blocks behind a push. -/
def pushG (gs : Nat → Nat) (n g : Nat) (j : Nat) : Nat := if j = n then g else gs j
theorem pushG_at (gs : Nat → Nat) (n g : Nat) : pushG gs n g n = g := if_pos rfl
theorem pushG_lt {gs : Nat → Nat} {n g j : Nat} (h : j < n) : pushG gs n g j = gs j := if_neg (by omega)
/-- A list in a block of its own has been appended. -/
theorem BII.push {W w3 : World} {v3 : Value} {x : List Int} {cp : Nat} (h : BII w base v L vs gs) (hb : base ≤ w.heap.size) (hE : Ext w W) (hg : w.heap.size < W.heap.size) (hB : ∃ N, Blk W w.heap.size 2 N ∧ x.length ≤ N) (hR : IntAt W (some ⟨w.heap.size, 0, none⟩) x) (hcp : x.length ≤ cp)
    (hL : Lst 27 1 cellV w3 base v3 (vs ++ [⟨some ⟨w.heap.size, 0, none⟩, x.length, cp⟩])) (hgr : W.grownBy w3 v.ownBlock) (hat : v3.ownBlock = v.ownBlock ∨ v3.ownBlock = some W.heap.size) :
    BII w3 base v3 (L ++ [x]) (vs ++ [⟨some ⟨w.heap.size, 0, none⟩, x.length, cp⟩]) (pushG gs L.length w.heap.size) := by
  have hlt : ∀ k, k < L.length → gs k < w.heap.size := fun k hk => by obtain ⟨N, hB, -⟩ := h.blk k hk; exact hB.lt
  have hvne : v.ownBlock ≠ some w.heap.size := fun e => by have := h.lst.lt _ e; omega
  have hsp : ∀ k, k < (L ++ [x]).length → k < L.length ∨ k = L.length := fun k hk => by rw [List.length_append] at hk; simp only [List.length_cons, List.length_nil] at hk; omega
  refine ⟨hL, by rw [List.length_append, List.length_append, h.len]; rfl, fun k hk => ?_, fun k hk => ?_, fun k hk => ?_, fun k hk => ?_, fun k hk => ?_, fun i j hi hj hij => ?_⟩
  · rcases hsp k hk with h1 | h1
    · obtain ⟨c, e, hc⟩ := h.val k h1
      exact ⟨c, by rw [nth_pre (by rw [h.len]; exact h1), pushG_lt h1, nth_pre h1]; exact e, by rw [nth_pre h1]; exact hc⟩
    · subst h1
      exact ⟨cp, by rw [pushG_at, nth_last, ← h.len, nth_last], by rw [nth_last]; exact hcp⟩
  · rcases hsp k hk with h1 | h1
    · rw [pushG_lt h1]; exact h.low k h1
    · subst h1; rw [pushG_at]; exact hb
  · rcases hsp k hk with h1 | h1
    · obtain ⟨N, hB', hn⟩ := h.blk k h1
      exact ⟨N, by rw [pushG_lt h1]; exact (hB'.ext hE).grown hgr (h.far k h1), by rw [nth_pre h1]; exact hn⟩
    · subst h1
      obtain ⟨N, hB', hn⟩ := hB
      exact ⟨N, by rw [pushG_at]; exact hB'.grown hgr hvne, by rw [nth_last]; exact hn⟩
  · rcases hsp k hk with h1 | h1
    · rw [pushG_lt h1, nth_pre h1]; exact ((h.row k h1).ext hE).grown hgr (h.far k h1)
    · subst h1
      rw [pushG_at, nth_last]; exact hR.grown hgr hvne
  · rcases hsp k hk with h1 | h1
    · rw [pushG_lt h1]
      have := hlt k h1
      rcases hat with e | e
      · rw [e]; exact h.far k h1
      · rw [e]; intro e2; simp only [Option.some.injEq] at e2; omega
    · subst h1
      rw [pushG_at]
      rcases hat with e | e
      · rw [e]; exact hvne
      · rw [e]; intro e2; simp only [Option.some.injEq] at e2; omega
  · rcases hsp i hi with h1 | h1 <;> rcases hsp j hj with h2 | h2
    · rw [pushG_lt h1, pushG_lt h2]; exact h.apart i j h1 h2 hij
    · subst h2; rw [pushG_lt h1, pushG_at]; have := hlt i h1; omega
    · subst h1; rw [pushG_lt h2, pushG_at]; have := hlt j h2; omega
    · omega
end
end Go.Proofs.YtmkmmenkjbmppaaDoor

/- Lists of lists of numbers: how they lie, and the law's own helpers on them. -/
import Derived.Test.YtmkmmenkjbmppaaDoorMark
import Derived.Test.YtmkmmenkjbmppaaDoorHelpInt
import Derived.Test.YtmkmmenkjbmppaaDoorLst
namespace Go.Proofs.YtmkmmenkjbmppaaDoor
open Go.RowKit
/-- A slice: where it begins, how long it is, how long it may grow. -/
structure Sl where
  ad : Option Addr
  n : Nat
  c : Nat
instance : Inhabited Sl := ⟨⟨none, 0, 0⟩⟩
abbrev cellV : Sl → Nat → Value := fun s _ => .slice s.ad s.n s.c
theorem oneSl : ∀ (x : Sl) (j : Nat), j < 1 → (cellV x j).oneCell' = true := fun _ _ _ => rfl
/-- A list of lists: vs are its slices. -/
structure IIs (w : World) (a : Option Addr) (L : List (List Int)) (vs : List Sl) : Prop where
  len : vs.length = L.length
  row : RowsAt 1 cellV w a vs
  inn : ∀ k, k < L.length → ∃ ad cp, nth vs k = ⟨ad, (nth L k).length, cp⟩ ∧ (nth L k).length ≤ cp ∧ IntAt w ad (nth L k)
theorem IIs.ext {w w' : World} {a : Option Addr} {L : List (List Int)} {vs : List Sl} (h : IIs w a L vs) (he : Ext w w') : IIs w' a L vs :=
  ⟨h.len, h.row.ext he, fun k hk => by obtain ⟨ad, cp, e, hc, hi⟩ := h.inn k hk; exact ⟨ad, cp, e, hc, hi.ext he⟩⟩
theorem IIs.at {w : World} {b off : Nat} {L : List (List Int)} {vs : List Sl} (h : IIs w (some ⟨b, off, none⟩) L vs) {k : Nat} (hk : k < L.length) :
    b < w.heap.size ∧ ∃ ad cp, w.cell? ⟨b, off + k, none⟩ = some (.slice ad (nth L k).length cp) ∧ (nth L k).length ≤ cp ∧ IntAt w ad (nth L k) := by
  obtain ⟨h1, h2⟩ := RowsAt.at h.row k (by rw [h.len]; exact hk)
  obtain ⟨ad, cp, e, hc, hi⟩ := h.inn k hk
  have h3 := h2 0 (by decide)
  rw [Nat.mul_one, Nat.add_zero] at h3
  exact ⟨h1, ad, cp, by rw [h3]; show some (cellV (nth vs k) 0) = _; rw [e], hc, hi⟩
/-- How many numbers the first lists have. -/
def tot (L : List (List Int)) : Nat → Nat
  | 0 => 0
  | k + 1 => tot L k + (nth L k).length
theorem tot_mono {L : List (List Int)} {i : Nat} : ∀ {j : Nat}, i ≤ j → tot L i ≤ tot L j
  | 0, h => by obtain rfl : i = 0 := by omega
               exact Nat.le_refl _
  | j + 1, h => by
    rcases Nat.lt_or_ge i (j + 1) with h1 | h1
    · have := tot_mono (L := L) (i := i) (j := j) (by omega); show _ ≤ tot L j + _; omega
    · obtain rfl : i = j + 1 := by omega
      exact Nat.le_refl _
/-- The slices of a list of lists lie in blocks of their own, each in another one. -/
structure OII (w : World) (base : Nat) (a : Option Addr) (L : List (List Int)) (vs : List Sl) (gs : Nat → Nat) : Prop where
  len : vs.length = L.length
  row : RowsAt 1 cellV w a vs
  val : ∀ k, k < L.length → ∃ cp, nth vs k = ⟨some ⟨gs k, 0, none⟩, (nth L k).length, cp⟩ ∧ (nth L k).length ≤ cp
  low : ∀ k, k < L.length → base ≤ gs k
  blk : ∀ k, k < L.length → ∃ N, Blk w (gs k) 2 N ∧ (nth L k).length ≤ N
  far : ∀ k, k < L.length → ∀ b o s, a = some ⟨b, o, s⟩ → b ≠ gs k
  apart : ∀ i j, i < L.length → j < L.length → i ≠ j → gs i ≠ gs j
section
variable {w w' : World} {base : Nat} {a : Option Addr} {L : List (List Int)} {vs : List Sl} {gs : Nat → Nat}
theorem OII.ext (h : OII w base a L vs gs) (he : Ext w w') : OII w' base a L vs gs :=
  ⟨h.len, h.row.ext he, h.val, h.low, fun k hk => by obtain ⟨N, hB, hn⟩ := h.blk k hk; exact ⟨N, hB.ext he, hn⟩, h.far, h.apart⟩
theorem chg_blk {g b T n : Nat} (h : Chg (some ⟨g, 0, none⟩) w w') (hB : Blk w b T n) (hne : b ≠ g) : Blk w' b T n := by
  have hl := hB.lt
  obtain ⟨cs, h1, e⟩ := hB
  exact ⟨cs, by rw [h.block b hl (fun g' o s e => by simp only [Option.some.injEq, Addr.mk.injEq] at e; omega)]; exact h1, e⟩
theorem OII.own (h : OII w base a L vs gs) {k : Nat} (hk : k < L.length) : Own w base 2 1 (some ⟨gs k, 0, none⟩) (nth L k).length := by
  obtain ⟨N, hB, hn⟩ := h.blk k hk
  exact .inr ⟨gs k, N, rfl, h.low k hk, hB, by omega⟩
theorem ownA_chg {n g : Nat} (h : Chg (ownA n (some ⟨g, 0, none⟩)) w w') : Chg (some ⟨g, 0, none⟩) w w' := by
  rcases Nat.eq_zero_or_pos n with h0 | h0
  · subst h0
    exact ⟨h.os, h.tape, h.output, h.size, fun k hk _ => h.block k hk (fun g' o s e => by unfold ownA at e; simp at e)⟩
  · rw [ownA_pos h0] at h; exact h
/-- One of the lists has been written. -/
theorem OII.chg (h : OII w base a L vs gs) {k : Nat} (hk : k < L.length) (hc : Chg (some ⟨gs k, 0, none⟩) w w') (ho : Own w' base 2 1 (some ⟨gs k, 0, none⟩) (nth L k).length) (hp : 0 < (nth L k).length) : OII w' base a L vs gs :=
  ⟨h.len, h.row.chg hc (fun g o s g' o' s' e1 e2 => by
      simp only [Option.some.injEq, Addr.mk.injEq] at e1
      have := h.far k hk g' o' s' e2
      omega), h.val, h.low, fun i hi => by
      by_cases e : i = k
      · subst e
        rcases ho with h0 | ⟨g, N, e, -, hB, hn⟩
        · omega
        · simp only [Option.some.injEq, Addr.mk.injEq, and_true] at e
          exact ⟨N, by rw [e]; exact hB, by omega⟩
      · obtain ⟨N, hB, hn⟩ := h.blk i hi
        exact ⟨N, chg_blk hc hB (h.apart i k hi hk e), hn⟩, h.far, h.apart⟩
end
/-- The marks in the first lists. -/
def marksII (w : World) (L : List (List Int)) (gs : Nat → Nat) (k : Int) (m : Nat) : Prop :=
  ∀ i, i < m → RowsAt 1 (fun (q : Nat) _ => .int .i64 (k + (tot L i : Nat) + (q : Int))) w (some ⟨gs i, 0, none⟩) (List.range (nth L i).length)
end Go.Proofs.YtmkmmenkjbmppaaDoor

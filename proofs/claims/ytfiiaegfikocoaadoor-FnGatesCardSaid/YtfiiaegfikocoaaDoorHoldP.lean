/- A gate through some hours: when it is shut, and how often it is shut. Plain Lean. -/
import Derived.Test.YtfiiaegfikocoaaDoorGates
import Derived.Test.YtfiiaegfikocoaaDoorLst
namespace Go.Proofs.YtfiiaegfikocoaaDoor
open Go.RowKit
def gAt (x : Gate) (hz : List Int) : Nat → Gate
  | 0 => x
  | k + 1 => stepG (gAt x hz k) (nth hz k)
theorem gateB_iff {x : Gate} : gateB x = true ↔ nameB x.id = true ∧ (1 ≤ x.shut ∧ x.shut ≤ 1000) ∧ (0 ≤ x.opn ∧ x.opn ≤ x.shut) ∧ (1 ≤ x.hold ∧ x.hold ≤ 48) ∧ (0 ≤ x.calm ∧ x.calm ≤ x.hold - 1) ∧ (x.shuts = true ∨ x.calm = 0) := by
  unfold gateB
  simp only [Bool.and_eq_true, Bool.or_eq_true, inB_iff, beq_iff_eq, and_assoc]
theorem stepG_ok {x : Gate} (h : gateB x = true) (z : Int) : gateB (stepG x z) = true := by
  rw [gateB_iff] at h ⊢
  obtain ⟨h1, h2, h3, h4, h5, h6⟩ := h
  unfold stepG
  split
  · rename_i hs
    refine ⟨h1, h2, h3, h4, h5, .inr ?_⟩
    rw [hs] at h6; simpa using h6
  · split
    · exact ⟨h1, h2, h3, h4, ⟨Int.le_refl _, by show (0 : Int) ≤ x.hold - 1; omega⟩, .inr rfl⟩
    · split
      · exact ⟨h1, h2, h3, h4, ⟨Int.le_refl _, by show (0 : Int) ≤ x.hold - 1; omega⟩, .inr rfl⟩
      · rename_i hs _ _
        exact ⟨h1, h2, h3, h4, ⟨by show (0 : Int) ≤ x.calm + 1; omega, by show x.calm + 1 ≤ x.hold - 1; omega⟩, .inl (by simpa using hs)⟩
theorem gAt_ok {x : Gate} (h : gateB x = true) (hz : List Int) : ∀ k, gateB (gAt x hz k) = true
  | 0 => h
  | k + 1 => stepG_ok (gAt_ok h hz k) _
def bools (x : Gate) (hz : List Int) : Nat → List Bool
  | 0 => []
  | k + 1 => bools x hz k ++ [(gAt x hz (k + 1)).shuts]
theorem bools_len (x : Gate) (hz : List Int) : ∀ n, (bools x hz n).length = n
  | 0 => rfl
  | n + 1 => by simp only [bools]; rw [List.length_append, bools_len x hz n]; rfl
theorem bools_at (x : Gate) (hz : List Int) : ∀ {n k : Nat}, k < n → nth (bools x hz n) k = (gAt x hz (k + 1)).shuts
  | n + 1, k, h => by
    simp only [bools]
    rcases Nat.lt_or_ge k n with h1 | h1
    · rw [nth_pre (by rw [bools_len]; exact h1)]; exact bools_at x hz h1
    · obtain rfl : k = n := by omega
      have := nth_last (bools x hz k) (gAt x hz (k + 1)).shuts
      rwa [bools_len] at this
def hoursG (x : Gate) (hz : List Int) : Nat → Int
  | 0 => 0
  | k + 1 => hoursG x hz k + if (gAt x hz (k + 1)).shuts = true then 1 else 0
def timesG (x : Gate) (hz : List Int) : Nat → Int
  | 0 => 0
  | k + 1 => timesG x hz k + if (gAt x hz (k + 1)).shuts = true ∧ (gAt x hz k).shuts = false then 1 else 0
theorem hours_bd (x : Gate) (hz : List Int) : ∀ k, 0 ≤ hoursG x hz k ∧ hoursG x hz k ≤ k
  | 0 => by simp [hoursG]
  | k + 1 => by have := hours_bd x hz k; simp only [hoursG]; split <;> omega
theorem times_bd (x : Gate) (hz : List Int) : ∀ k, 0 ≤ timesG x hz k ∧ timesG x hz k ≤ k
  | 0 => by simp [timesG]
  | k + 1 => by have := times_bd x hz k; simp only [timesG]; split <;> omega
abbrev cellT : Bool → Nat → Value := fun (x : Bool) (_ : Nat) => Value.bool x
abbrev BoolAt (w : World) (a : Option Addr) (l : List Bool) : Prop := RowsAt 1 cellT w a l
theorem BoolAt.at {w : World} {b off : Nat} {l : List Bool} (h : BoolAt w (some ⟨b, off, none⟩) l) (k : Nat) (hk : k < l.length) : b < w.heap.size ∧ w.cell? ⟨b, off + k, none⟩ = some (.bool (nth l k)) :=
  let h' := RowsAt.at h k hk; ⟨h'.1, by have := h'.2 0 (by decide); rwa [Nat.mul_one] at this⟩
/-- A gate in a block of its own. -/
structure Gbox (w : World) (b : Nat) (x : Gate) : Prop where
  blk : Blk w b 31 6
  cell : ∀ j, j < 6 → w.cell? ⟨b, j, none⟩ = some (x.cell j)
abbrev gvs (x : Gate) : List Value := [.string x.id, .int .i64 x.shut, .int .i64 x.opn, .int .i64 x.hold, .bool x.shuts, .int .i64 x.calm]
theorem six {j : Nat} (h : j < 6) : j = 0 ∨ j = 1 ∨ j = 2 ∨ j = 3 ∨ j = 4 ∨ j = 5 := by omega
theorem Gbox.new (w : World) (x : Gate) : Gbox (w.alloc (.cells (gvs x).toArray 31)) w.heap.size x :=
  ⟨Blk.new w _ _, fun j hj => by rw [cell_new]; rcases six hj with rfl | rfl | rfl | rfl | rfl | rfl <;> rfl⟩
theorem Gbox.ext {w w' : World} {b : Nat} {x : Gate} (h : Gbox w b x) (he : Ext w w') : Gbox w' b x := ⟨h.blk.ext he, fun j hj => he.cell (h.cell j hj)⟩
theorem Gbox.put {w : World} {b : Nat} (h : Blk w b 31 6) (y : Gate) : Gbox (w.setCells b 0 (gvs y)) b y := by
  have hF := fill_row (c := fun (_ : Nat) j => y.cell j) (gvs y) h (k := 0) (m := 6) (by omega) rfl (fun i hi => absurd hi (Nat.not_lt_zero _)) (fun j hj => by rcases six hj with rfl | rfl | rfl | rfl | rfl | rfl <;> rfl)
  rw [Nat.zero_mul] at hF
  exact ⟨hF.1, fun j hj => by have := hF.2 0 (by omega) j hj; rwa [Nat.zero_mul, Nat.zero_add] at this⟩
theorem Gbox.beside {w : World} {b g o : Nat} {x : Gate} (h : Gbox w b x) (hne : g ≠ b) (v : Value) : Gbox (w.setCell ⟨g, o, none⟩ v) b x :=
  ⟨h.blk.set _ _ _, fun j hj => by rw [cell_other _ (by omega)]; exact h.cell j hj⟩
theorem Gbox.grown {w w' : World} {b : Nat} {x : Gate} {row : Option Nat} (h : Gbox w b x) (hg : w.grownBy w' row) (hne : row ≠ some b) : Gbox w' b x :=
  ⟨h.blk.grown hg hne, fun j hj => cell_grown (h.cell j hj) hg hne⟩
theorem Gbox.all {w : World} {b : Nat} {x : Gate} (h : Gbox w b x) : b < w.heap.size ∧ w.cell? ⟨b, 0, none⟩ = some (.string x.id) ∧ w.cell? ⟨b, 1, none⟩ = some (.int .i64 x.shut) ∧ w.cell? ⟨b, 2, none⟩ = some (.int .i64 x.opn) ∧ w.cell? ⟨b, 3, none⟩ = some (.int .i64 x.hold) ∧ w.cell? ⟨b, 4, none⟩ = some (.bool x.shuts) ∧ w.cell? ⟨b, 5, none⟩ = some (.int .i64 x.calm) :=
  ⟨h.blk.lt, h.cell 0 (by decide), h.cell 1 (by decide), h.cell 2 (by decide), h.cell 3 (by decide), h.cell 4 (by decide), h.cell 5 (by decide)⟩
end Go.Proofs.YtfiiaegfikocoaaDoor

/- Chapter 25: what teams are worth, by the program and by the reference. -/
import Derived.Test.YtccbcjopmkmipaaDoorTeamsP
import Derived.Test.YtccbcjopmkmipaaDoorLsS
namespace Go.Proofs.YtccbcjopmkmipaaDoor
open Go.RowKit
/-- The areas are valid ones, and each has one of four teams. -/
structure TeamsOk (l : List Area) (ts : List Int) : Prop where
  area : ∀ k, k < l.length → areaB (nth l k) = true
  team : ∀ k, k < ts.length → 0 ≤ nth ts k ∧ nth ts k < 4
  len : ts.length = l.length
theorem TeamsOk.tE_bd {l : List Area} {ts : List Int} (h : TeamsOk l ts) (t : Int) : ∀ {k : Nat}, k ≤ ts.length → 0 ≤ tE l ts t k ∧ tE l ts t k ≤ 600 * k
  | 0, _ => by simp [tE]
  | k + 1, hk => by
    have ih := h.tE_bd t (k := k) (by omega)
    have := areaB_parts (h.area k (by have := h.len; omega))
    by_cases h1 : nth ts k = t
    · rw [tE_y h1]; omega
    · rw [tE_n h1]; omega
theorem TeamsOk.term_bd {l : List Area} {ts : List Int} (h : TeamsOk l ts) {s : Int} (hs : 0 ≤ s) {k : Nat} (hk : k < ts.length) (t : Int) : 0 ≤ (nth l k).chance * surv (s + tE l ts t (k + 1)) ∧ (nth l k).chance * surv (s + tE l ts t (k + 1)) ≤ 1000000 := by
  have h1 := areaB_parts (h.area k (by have := h.len; omega))
  have h2 := surv_bd (m := s + tE l ts t (k + 1)) (by have := h.tE_bd t (k := k + 1) (by omega); omega)
  have := mul_bd h1.2.1 h1.2.2.1 h2.1 h2.2
  omega
theorem TeamsOk.tW_bd {l : List Area} {ts : List Int} (h : TeamsOk l ts) {s : Int} (hs : 0 ≤ s) : ∀ {k : Nat}, k ≤ ts.length → 0 ≤ tW l ts s k ∧ tW l ts s k ≤ 1000000 * k
  | 0, _ => by simp [tW]
  | k + 1, hk => by
    have := h.tW_bd hs (k := k) (by omega)
    have := h.term_bd hs (k := k) (by omega) (nth ts k)
    show 0 ≤ tW l ts s k + _ ∧ tW l ts s k + _ ≤ _
    omega
def ecell (l : List Area) (ts : List Int) (k : Nat) (j : Nat) : Value := .int .i64 (tE l ts (j : Int) k)
end Go.Proofs.YtccbcjopmkmipaaDoor

/- What teams are worth: team by team, and area by area. Plain Lean. -/
import Derived.Test.YtccbcjopmkmipaaDoorWorth
import Derived.Test.YtccbcjopmkmipaaDoorLs
namespace Go.Proofs.YtccbcjopmkmipaaDoor
open Go.RowKit
theorem pickA_pre {l : List Area} {o : List Int} {x : Int} {k : Nat} (h : k < o.length) : pickA l (o ++ [x]) k = pickA l o k := by unfold pickA; rw [nth_pre h]
theorem endAt_pre {l : List Area} {o : List Int} {x s : Int} : ∀ {k : Nat}, k ≤ o.length → endAt l (o ++ [x]) s k = endAt l o s k
  | 0, _ => rfl
  | k + 1, h => by simp only [endAt]; rw [endAt_pre (by omega), pickA_pre (by omega)]
theorem worthAt_pre {l : List Area} {o : List Int} {x s : Int} : ∀ {k : Nat}, k ≤ o.length → worthAt l (o ++ [x]) s k = worthAt l o s k
  | 0, _ => rfl
  | k + 1, h => by simp only [worthAt]; rw [worthAt_pre (by omega), pickA_pre (by omega), endAt_pre (by omega)]
theorem endAt_push (l : List Area) (o : List Int) (x s : Int) : endAt l (o ++ [x]) s (o.length + 1) = endAt l o s o.length + (nth l x.toNat).minutes := by
  simp only [endAt]; rw [endAt_pre (Nat.le_refl _)]; unfold pickA; rw [nth_last]
theorem worthAt_push (l : List Area) (o : List Int) (x s : Int) : worthAt l (o ++ [x]) s (o.length + 1) = worthAt l o s o.length + (nth l x.toNat).chance * surv (endAt l o s o.length + (nth l x.toNat).minutes) := by
  simp only [worthAt]; rw [worthAt_pre (Nat.le_refl _), endAt_push]; unfold pickA; rw [nth_last]
/-- The areas of a team among the first ones. -/
def ordT (ts : List Int) (t : Int) : Nat → List Int
  | 0 => []
  | k + 1 => if nth ts k = t then ordT ts t k ++ [(k : Int)] else ordT ts t k
/-- How long a team has been at work behind the first areas. -/
def tE (l : List Area) (ts : List Int) (t : Int) : Nat → Int
  | 0 => 0
  | k + 1 => if nth ts k = t then tE l ts t k + (nth l k).minutes else tE l ts t k
def tW (l : List Area) (ts : List Int) (s : Int) : Nat → Int
  | 0 => 0
  | k + 1 => tW l ts s k + (nth l k).chance * surv (s + tE l ts (nth ts k) (k + 1))
def tWt (l : List Area) (ts : List Int) (s t : Int) (k : Nat) : Int := worthAt l (ordT ts t k) s (ordT ts t k).length
theorem ordT_y {ts : List Int} {t : Int} {k : Nat} (h : nth ts k = t) : ordT ts t (k + 1) = ordT ts t k ++ [(k : Int)] := if_pos h
theorem ordT_n {ts : List Int} {t : Int} {k : Nat} (h : nth ts k ≠ t) : ordT ts t (k + 1) = ordT ts t k := if_neg h
theorem tE_y {l : List Area} {ts : List Int} {t : Int} {k : Nat} (h : nth ts k = t) : tE l ts t (k + 1) = tE l ts t k + (nth l k).minutes := if_pos h
theorem tE_n {l : List Area} {ts : List Int} {t : Int} {k : Nat} (h : nth ts k ≠ t) : tE l ts t (k + 1) = tE l ts t k := if_neg h
theorem end_ordT (l : List Area) (ts : List Int) (s t : Int) : ∀ k, endAt l (ordT ts t k) s (ordT ts t k).length = s + tE l ts t k
  | 0 => by simp [ordT, endAt, tE]
  | k + 1 => by
    by_cases h : nth ts k = t
    · rw [ordT_y h, tE_y h, List.length_append, List.length_cons, List.length_nil, Nat.zero_add, endAt_push, end_ordT l ts s t k, Int.toNat_natCast]; omega
    · rw [ordT_n h, tE_n h]; exact end_ordT l ts s t k
theorem tWt_y {l : List Area} {ts : List Int} {s t : Int} {k : Nat} (h : nth ts k = t) : tWt l ts s t (k + 1) = tWt l ts s t k + (nth l k).chance * surv (s + tE l ts t (k + 1)) := by
  unfold tWt
  rw [ordT_y h, tE_y h, List.length_append, List.length_cons, List.length_nil, Nat.zero_add, worthAt_push, end_ordT, Int.toNat_natCast, Int.add_assoc]
theorem tWt_n {l : List Area} {ts : List Int} {s t : Int} {k : Nat} (h : nth ts k ≠ t) : tWt l ts s t (k + 1) = tWt l ts s t k := by
  unfold tWt; rw [ordT_n h]
theorem teams_eq {l : List Area} {ts : List Int} {s : Int} : ∀ {k : Nat}, (∀ i, i < k → 0 ≤ nth ts i ∧ nth ts i < 4) → tWt l ts s 0 k + tWt l ts s 1 k + tWt l ts s 2 k + tWt l ts s 3 k = tW l ts s k
  | 0, _ => by simp [tWt, ordT, worthAt, tW]
  | k + 1, h => by
    have ih := teams_eq (l := l) (s := s) (fun i hi => h i (Nat.lt_succ_of_lt hi))
    have hk := h k (Nat.lt_succ_self k)
    show _ = tW l ts s k + (nth l k).chance * surv (s + tE l ts (nth ts k) (k + 1))
    rcases (show nth ts k = 0 ∨ nth ts k = 1 ∨ nth ts k = 2 ∨ nth ts k = 3 by omega) with e | e | e | e
    · rw [tWt_y e, tWt_n (t := 1) (by omega), tWt_n (t := 2) (by omega), tWt_n (t := 3) (by omega), ← ih, e]; omega
    · rw [tWt_y e, tWt_n (t := 0) (by omega), tWt_n (t := 2) (by omega), tWt_n (t := 3) (by omega), ← ih, e]; omega
    · rw [tWt_y e, tWt_n (t := 1) (by omega), tWt_n (t := 0) (by omega), tWt_n (t := 3) (by omega), ← ih, e]; omega
    · rw [tWt_y e, tWt_n (t := 1) (by omega), tWt_n (t := 2) (by omega), tWt_n (t := 0) (by omega), ← ih, e]; omega
end Go.Proofs.YtccbcjopmkmipaaDoor

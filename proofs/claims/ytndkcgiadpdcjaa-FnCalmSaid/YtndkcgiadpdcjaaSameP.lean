/- Pairs of incidents at a place: what SamePlace hands back. -/
import Derived.Test.YtndkcgiadpdcjaaIncL
import Derived.Test.YtndkcgiadpdcjaaIIB
namespace Go.Proofs.Ytndkcgiadpdcjaa
open Go.RowKit
theorem sEq_comm (a b : ByteArray) : sEq a b = sEq b a := by rw [Bool.eq_iff_iff, sEq_iff, sEq_iff]; exact eq_comm
def pairB (l : List Incident) (d : Int) (i k : Nat) : Bool := sEq (nth l k).place (nth l i).place && decide ((nth l k).day - (nth l i).day ≤ d)
/-- The pairs of incident i with the next m ones. -/
def prI (l : List Incident) (d : Int) (i : Nat) : Nat → List (List Int)
  | 0 => []
  | m + 1 => if pairB l d i (i + 1 + m) = true then prI l d i m ++ [[(i : Int), ((i + 1 + m : Nat) : Int)]] else prI l d i m
/-- The pairs of the first incidents with all later ones. -/
def prO (l : List Incident) (d : Int) : Nat → List (List Int)
  | 0 => []
  | i + 1 => prO l d i ++ prI l d i (l.length - (i + 1))
theorem prI_y {l : List Incident} {d : Int} {i m : Nat} (h : pairB l d i (i + 1 + m) = true) : prI l d i (m + 1) = prI l d i m ++ [[(i : Int), ((i + 1 + m : Nat) : Int)]] := if_pos h
theorem prI_n {l : List Incident} {d : Int} {i m : Nat} (h : pairB l d i (i + 1 + m) = false) : prI l d i (m + 1) = prI l d i m := if_neg (by rw [h]; decide)
theorem prI_len (l : List Incident) (d : Int) (i : Nat) : ∀ m, (prI l d i m).length ≤ m
  | 0 => Nat.le_refl _
  | m + 1 => by
    have := prI_len l d i m
    cases h : pairB l d i (i + 1 + m)
    · rw [prI_n h]; omega
    · rw [prI_y h, List.length_append]; simp; omega
theorem prO_len (l : List Incident) (d : Int) : ∀ i, (prO l d i).length ≤ i * l.length
  | 0 => by simp [prO]
  | i + 1 => by
    have := prO_len l d i
    have := prI_len l d i (l.length - (i + 1))
    have e : (i + 1) * l.length = i * l.length + l.length := Nat.succ_mul i l.length
    show (prO l d i ++ prI l d i _).length ≤ _
    rw [List.length_append]; omega
def sameC (l : List Incident) (d : Int) : Int := if incidentList l = true then (if inB d 1 1000 = true then 0 else 2) else 1
def sameV (l : List Incident) (d : Int) : List (List Int) := if sameC l d = 0 then prO l d l.length else []
theorem same_1 {l : List Incident} {d : Int} (h : incidentList l = false) : sameC l d = 1 ∧ sameV l d = [] := by
  have e : sameC l d = 1 := by unfold sameC; rw [h]; rfl
  exact ⟨e, if_neg (by rw [e]; decide)⟩
theorem same_2 {l : List Incident} {d : Int} (h : incidentList l = true) (h2 : inB d 1 1000 = false) : sameC l d = 2 ∧ sameV l d = [] := by
  have e : sameC l d = 2 := by unfold sameC; rw [h, h2]; rfl
  exact ⟨e, if_neg (by rw [e]; decide)⟩
theorem same_0 {l : List Incident} {d : Int} (h : incidentList l = true) (h2 : inB d 1 1000 = true) : sameC l d = 0 ∧ sameV l d = prO l d l.length := by
  have e : sameC l d = 0 := by unfold sameC; rw [h, h2]; rfl
  exact ⟨e, if_pos e⟩
theorem daysOk_any (n : Int) (w : World) : Calls Try.prog 46 #[.int .i64 n] w fun e w' => e = .returned (.bool (inB n 1 1000)) ∧ w' = w := by
  go_enter Try.func46, Try.ntmps46
  go_wp2_with (go_at_call 44; refine (within_any _ _ _ _).mono ?_; rintro e w' ⟨rfl, rfl⟩)
  go_ret
  exact ⟨rfl, rfl⟩
end Go.Proofs.Ytndkcgiadpdcjaa

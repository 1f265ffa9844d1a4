/- CommonAncestor and AncestorsOf: what the program and the reference hand back. -/
import Derived.Test.YtbcpgdidajapoaaDoorLine
import Derived.Test.YtbcpgdidajapoaaDoorOwnO
namespace Go.Proofs.YtbcpgdidajapoaaDoor
open Go.RowKit
def comV (P : List VerP) (a b : Int) : Int := if vcodeP P [a, b] = 0 then comP P a b else 0
theorem vcodeP_bad {P : List VerP} (ns : List Int) (h : histP P = false) : vcodeP P ns = 1 := if_neg (by rw [h]; decide)
theorem vcodeP_two {P : List VerP} (a b : Int) (h : histP P = true) : vcodeP P [a, b] = if (inB a 1 P.length && inB b 1 P.length) = true then 0 else 3 := by
  unfold vcodeP allIn
  rw [if_pos h]
  simp only [List.all_cons, List.all_nil, Bool.and_true]
theorem vcodeP_one {P : List VerP} (a : Int) (h : histP P = true) : vcodeP P [a] = if inB a 1 P.length = true then 0 else 3 := by
  unfold vcodeP allIn
  rw [if_pos h]
  simp only [List.all_cons, List.all_nil, Bool.and_true]
def ancV (P : List VerP) (n : Int) : List Int := if vcodeP P [n] = 0 then (lineP P n).tail else []
theorem ancV_len (P : List VerP) (n : Int) : (ancV P n).length ≤ 32 := by
  unfold ancV; split
  · rename_i h
    obtain ⟨h1, h2⟩ := vcodeP_zero h
    have := lineP_len P n
    have hl := (histP_bd h1).1
    have : inB n 1 P.length = true := by simpa [allIn] using h2
    rw [inB_iff] at this
    rw [List.length_tail]; omega
  · simp
end Go.Proofs.YtbcpgdidajapoaaDoor

/- The walk's step at 'x[:k]' and 'x[k:]' of a slice whose elements are told: no case by nil or by the capacity is left to the walk. No conditions. -/
import Derived.Test.YtmkmmenkjbmppaaDoorAdd
namespace Go.Proofs.YtmkmmenkjbmppaaDoor
open Go.RowKit
theorem wpList_cutLo {α : Type} [Inhabited α] {T n : Nat} {cell : α → Nat → Value} {w : World} {P : Program} {ops : Array Oper} {rest : List Oper} {o : Oper} {a : Act} {Q : Exit → Act → World → Prop} {t bytes : Nat} (E : El P t T n bytes) (hgd : o.guard = none) (x h : Operand)
    (ho : o.op = .slice t x none (some h) none) (ad : Option Addr) (len cap : Nat) (l : List α) (k : Nat) (hx : a.eval x = .slice ad len cap) (hh : a.eval h = .int .i64 (k : Int)) (hR : RowsAt n cell w ad l) (hk : k ≤ len) (hc : len ≤ cap)
    (H : ∀ ad' c', RowsAt n cell w ad' (l.take k) → wpList P ops Q rest (a.put o.dst (.slice ad' k c')) w) : wpList P ops Q (o :: rest) a w := by
  obtain ⟨i, z, hi, -, hs, -⟩ := E.inf
  have he : P.elem t = T := by simp [Program.elem, E.und]
  have hu : P.underlying t = some (.slice (P.elem t)) := by rw [he]; exact E.und
  have hz : (sizeOf T).run P w = .ok n w := by simp [sizeOf, typeInfo, hi, hs]
  have hrun : (Instr.sliceAt t (.slice ad len cap) none (some (.int .i64 (k : Int))) none).run P w = .ok (sliced ad 0 k cap n) w := by
    rw [run_sliceAt_slice w t _ _ _ _ hu, run_slice_h w t _ _ _ hu .i64 _ (by omega) (by omega), he, hz]
    simp only [Result.andThen, Int.toNat_natCast]
  have hRd : RowsAt n cell w (if cap = 0 then ad else ad.map (·.add (0 * n))) (l.take k) := by
    by_cases h0 : 0 < (l.take k).length
    · obtain ⟨b, off, e⟩ := (hR.take k).base h0
      subst e
      have e2 : (if cap = 0 then some (⟨b, off, none⟩ : Addr) else (some (⟨b, off, none⟩ : Addr)).map (·.add (0 * n))) = some ⟨b, off, none⟩ := by
        split
        · rfl
        · show some ((⟨b, off, none⟩ : Addr).add (0 * n)) = _
          rw [addr_add, Nat.zero_mul, Nat.add_zero]
      rw [e2]; exact hR.take k
    · have : l.take k = [] := List.eq_nil_of_length_eq_zero (by omega)
      rw [this]; exact RowsAt.nil
  refine wpList_plain hgd fun K hK => ?_
  unfold Oper.wp
  simp [execOp, ho, hx, hh, hrun, Result.andThen]
  exact hK _ _ (H _ _ hRd)
theorem wpList_cutHi {α : Type} [Inhabited α] {T n : Nat} {cell : α → Nat → Value} {w : World} {P : Program} {ops : Array Oper} {rest : List Oper} {o : Oper} {a : Act} {Q : Exit → Act → World → Prop} {t bytes : Nat} (E : El P t T n bytes) (hgd : o.guard = none) (x h : Operand)
    (ho : o.op = .slice t x (some h) none none) (ad : Option Addr) (len cap : Nat) (l : List α) (k : Nat) (hx : a.eval x = .slice ad len cap) (hh : a.eval h = .int .i64 (k : Int)) (hR : RowsAt n cell w ad l) (hl : l.length = len) (hk : k ≤ len) (hc : len ≤ cap)
    (H : ∀ ad' c', RowsAt n cell w ad' (l.drop k) → wpList P ops Q rest (a.put o.dst (.slice ad' (len - k) c')) w) : wpList P ops Q (o :: rest) a w := by
  obtain ⟨i, z, hi, -, hs, -⟩ := E.inf
  have he : P.elem t = T := by simp [Program.elem, E.und]
  have hu : P.underlying t = some (.slice (P.elem t)) := by rw [he]; exact E.und
  have hz : (sizeOf T).run P w = .ok n w := by simp [sizeOf, typeInfo, hi, hs]
  have hrun : (Instr.sliceAt t (.slice ad len cap) (some (.int .i64 (k : Int))) none none).run P w = .ok (sliced ad k len cap n) w := by
    rw [run_sliceAt_slice w t _ _ _ _ hu, run_slice_l w t _ _ _ hu .i64 _ (by omega) (by omega), he, hz]
    simp only [Result.andThen, Int.toNat_natCast]
  have hRd : RowsAt n cell w (if cap = k then ad else ad.map (·.add (k * n))) (l.drop k) := by
    by_cases h0 : k = len
    · have : l.drop k = [] := List.eq_nil_of_length_eq_zero (by rw [List.length_drop]; omega)
      rw [this]; exact RowsAt.nil
    · obtain ⟨b, off, e⟩ := hR.base (show 0 < l.length by omega)
      subst e
      rw [if_neg (by omega)]
      show RowsAt n cell w (some ((⟨b, off, none⟩ : Addr).add (k * n))) _
      rw [addr_add]
      exact RowsAt.drop hR k
  refine wpList_plain hgd fun K hK => ?_
  unfold Oper.wp
  simp [execOp, ho, hx, hh, hrun, Result.andThen]
  exact hK _ _ (H _ _ hRd)
end Go.Proofs.YtmkmmenkjbmppaaDoor

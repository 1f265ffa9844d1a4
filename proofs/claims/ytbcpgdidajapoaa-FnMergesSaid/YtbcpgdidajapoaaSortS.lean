/- Go's slices.Sort and slices.Compact at a list of strings that is the call's own. -/
import Derived.Test.YtbcpgdidajapoaaStrs
import Derived.Test.YtbcpgdidajapoaaShelf
import Derived.Test.YtbcpgdidajapoaaSrt
import Derived.Sort.OwnSorted
namespace Go.Proofs.Ytbcpgdidajapoaa
open Go.RowKit
open Go.Sort (grow putRow grow_empty)
open Go.Proofs (encStr)
def L8 (l : List ByteArray) : List (List UInt8) := l.map fun x => x.data.toList
def mkS (x : List UInt8) : ByteArray := ⟨x.toArray⟩
theorem mkS_L (x : ByteArray) : mkS x.data.toList = x := by unfold mkS; simp
theorem L_mkS (x : List UInt8) : (mkS x).data.toList = x := by unfold mkS; simp
theorem L8_mk (l : List (List UInt8)) : L8 (l.map mkS) = l := by
  unfold L8; rw [List.map_map]
  have : ((fun x : ByteArray => x.data.toList) ∘ mkS) = id := funext L_mkS
  rw [this, List.map_id]
theorem mk_L8 (l : List ByteArray) : (L8 l).map mkS = l := by
  unfold L8; rw [List.map_map]
  have : (mkS ∘ fun x : ByteArray => x.data.toList) = id := funext mkS_L
  rw [this, List.map_id]
theorem L8_len (l : List ByteArray) : (L8 l).length = l.length := List.length_map ..
theorem flat_cellS (l : List ByteArray) : flat 1 cellS l = (L8 l).map encStr := by
  induction l with
  | nil => rfl
  | cons x l ih =>
    have : flat 1 cellS (x :: l) = (List.range 1).map (cellS x) ++ flat 1 cellS l := by simp [flat]
    rw [this, ih]
    show _ = encStr x.data.toList :: (L8 l).map encStr
    have e : encStr x.data.toList = .string x := by show Value.string (mkS x.data.toList) = _; rw [mkS_L]
    rw [e]; rfl
def le8 (x y : List UInt8) : Bool := decide (x ≤ y)
def lt8 (x y : List UInt8) : Bool := decide (x < y)
theorem slo_lt8 : SLO lt8 := ⟨fun a b h => by unfold lt8 at *; simp only [decide_eq_true_eq, decide_eq_false_iff_not] at *; exact List.lt_asymm h, fun a b c h k => by unfold lt8 at *; simp only [decide_eq_true_eq] at *; exact List.lt_trans h k, fun a b h k => by unfold lt8 at *; simp only [decide_eq_false_iff_not] at *; exact List.le_antisymm (List.not_lt.1 k) (List.not_lt.1 h)⟩
def sortS (l : List ByteArray) : List ByteArray := ((L8 l).mergeSort le8).map mkS
def compactS (l : List ByteArray) : List ByteArray := (Lib.compact (L8 l)).map mkS
theorem L8_sortS (l : List ByteArray) : L8 (sortS l) = (L8 l).mergeSort le8 := L8_mk _
theorem L8_compactS (l : List ByteArray) : L8 (compactS l) = Lib.compact (L8 l) := L8_mk _
theorem sortS_len (l : List ByteArray) : (sortS l).length = l.length := by unfold sortS; rw [List.length_map, List.length_mergeSort, L8_len]
theorem lt8_L (a b : ByteArray) : lt8 a.data.toList b.data.toList = sLt a b := by
  unfold lt8
  rw [Bool.eq_iff_iff, decide_eq_true_eq, sLt_iff, ByteArray.toList_eq, ByteArray.toList_eq]
theorem putL_L8 (x : ByteArray) : ∀ l : List ByteArray, putL lt8 x.data.toList (L8 l) = L8 (putL sLt x l)
  | [] => rfl
  | y :: l => by
    show (if lt8 y.data.toList x.data.toList = true then y.data.toList :: putL lt8 x.data.toList (L8 l) else if lt8 x.data.toList y.data.toList = true then x.data.toList :: y.data.toList :: L8 l else y.data.toList :: L8 l) = L8 (if sLt y x = true then y :: putL sLt x l else if sLt x y = true then x :: y :: l else y :: l)
    rw [lt8_L, lt8_L, putL_L8 x l]
    split
    · rfl
    · split <;> rfl
theorem putAll_L8 : ∀ (l o : List ByteArray), putAll lt8 (L8 o) (L8 l) = L8 (putAll sLt o l)
  | [], _ => rfl
  | x :: l, o => by
    show putAll lt8 (putL lt8 x.data.toList (L8 o)) (L8 l) = L8 (putAll sLt (putL sLt x o) l)
    rw [putL_L8, putAll_L8 l]
theorem compact_sortS (l : List ByteArray) : compactS (sortS l) = putAll sLt [] l := by
  unfold compactS
  rw [L8_sortS]
  have hs : ((L8 l).mergeSort le8).Pairwise (fun a b => lt8 b a = false) := by
    have := List.pairwise_mergeSort (le := le8) (fun a b c h k => by unfold le8 at *; simp only [decide_eq_true_eq] at *; exact List.le_trans h k) (fun a b => by unfold le8; simp only [Bool.or_eq_true, decide_eq_true_eq]; exact List.le_total a b) (L8 l)
    exact this.imp fun h => by unfold le8 at h; unfold lt8; simp only [decide_eq_true_eq, decide_eq_false_iff_not] at *; exact List.not_lt.2 h
  rw [sort_compact slo_lt8 (List.mergeSort_perm (L8 l) le8) hs]
  have := putAll_L8 l []
  rw [show L8 [] = [] from rfl] at this
  rw [this, mk_L8]
/-- A shorter part of a list of the call's own. -/
theorem Lst.pre {α : Type} {T n : Nat} {cell : α → Nat → Value} {w : World} {base k cap : Nat} {a : Option Addr} {l m : List α} (h : Lst T n cell w base (.slice a (l ++ m).length cap) (l ++ m)) (hk : k = l.length) : Lst T n cell w base (.slice a k cap) l := by
  subst hk
  refine ⟨flat_length l, ?_⟩
  rcases h.2 with ⟨hv, h0⟩ | ⟨g, cap', cur, hv, hg, hh, hc, hm, hs, ht⟩
  · simp only [Value.slice.injEq] at hv
    obtain ⟨rfl, -, rfl⟩ := hv
    rw [List.length_append] at h0
    exact .inl ⟨by rw [show l.length = 0 by omega], by omega⟩
  · simp only [Value.slice.injEq] at hv
    obtain ⟨rfl, -, rfl⟩ := hv
    rw [List.length_append] at hc ht
    refine .inr ⟨g, cap, cur, rfl, hg, hh, by omega, hm, hs, ?_⟩
    have e : (cur.toList.take ((l.length + m.length) * n)).take (l.length * n) = cur.toList.take (l.length * n) := by
      rw [List.take_take, Nat.min_eq_left (Nat.mul_le_mul_right n (by omega))]
    rw [← e, ht, flat_append, ← flat_length l (n := n) (cell := cell), List.take_left]
theorem SortS_any (w : World) (base : Nat) (a : Option Addr) (cap : Nat) (l : List ByteArray) (h : Lst 9 1 cellS w base (.slice a l.length cap) l) (hl : l.length ≤ 1000000) :
    Calls Try.prog 75 #[.slice a l.length cap] w fun e w' => e = .returned (.tuple #[]) ∧ Lst 9 1 cellS w' base (.slice a l.length cap) (sortS l) ∧ w.grownBy w' (Value.slice a l.length cap).ownBlock ∧ Since base w w' := by
  rcases h.2 with ⟨hv, h0⟩ | ⟨g, cap', cur, hv, hg, hh, hc, hm, hs, ht⟩
  · simp only [Value.slice.injEq] at hv
    obtain ⟨rfl, hl0, rfl⟩ := hv
    obtain rfl : l = [] := List.eq_nil_of_length_eq_zero hl0
    refine (Try.slices_Sort_string_none none 0 w).mono ?_
    rintro e w' ⟨rfl, rfl⟩
    exact ⟨rfl, by rw [show sortS [] = [] by unfold sortS; rw [show L8 [] = [] from rfl, List.mergeSort_nil]; rfl]; exact h, ⟨rfl, rfl, rfl, Nat.le_refl _, fun _ _ _ => rfl⟩, Since.of_ext (Ext.refl _)⟩
  · simp only [Value.slice.injEq] at hv
    obtain ⟨rfl, -, rfl⟩ := hv
    rw [Nat.mul_one, flat_cellS, ← L8_len] at ht
    have hlt : g < w.heap.size := by
      rcases Nat.lt_or_ge g w.heap.size with h1 | h1
      · exact h1
      · rw [Array.getElem?_eq_none h1] at hh; cases hh
    have hC := Try.slices_Sort_string g 0 cap (L8 l) w (Go.holds_of_block hh ht) hlt (by rw [L8_len]; omega)
    rw [L8_len] at hC
    refine hC.mono ?_
    rintro e w' ⟨rfl, n, os, rfl⟩
    have hg2 := Go.grownBy_sorted (w := w) (g := g) (n := n) (os := os) ((L8 l).mergeSort le8).toArray
    refine ⟨rfl, ?_, hg2, Since.of_grown hg2 (fun k hk => by simp only [Option.some.injEq] at hk; omega)⟩
    have := Go.ownsRow_sorted (w := w) (base := base) (g := g) (cap := cap) (n := n) (os := os) (ss := L8 l) (ts := (L8 l).mergeSort le8) (List.length_mergeSort _) hg hh (by rw [L8_len]; exact hc) hm hs
    unfold Lst
    rw [flat_cellS, sortS_len, L8_sortS]
    rw [L8_len] at this
    exact this
theorem CompactSS_any (w : World) (base : Nat) (a : Option Addr) (cap : Nat) (l : List ByteArray) (h : Lst 9 1 cellS w base (.slice a l.length cap) l) (hl : l.length ≤ 1000000) :
    Calls Try.prog 76 #[.slice a l.length cap] w fun e w' => e = .returned (.slice a (compactS l).length cap) ∧ Lst 9 1 cellS w' base (.slice a (compactS l).length cap) (compactS l) ∧ w.grownBy w' (Value.slice a l.length cap).ownBlock ∧ Since base w w' := by
  have hcl : (compactS l).length = (Lib.compact (L8 l)).length := List.length_map ..
  rcases h.2 with ⟨hv, h0⟩ | ⟨g, cap', cur, hv, hg, hh, hc, hm, hs, ht⟩
  · simp only [Value.slice.injEq] at hv
    obtain ⟨rfl, hl0, rfl⟩ := hv
    obtain rfl : l = [] := List.eq_nil_of_length_eq_zero hl0
    refine (Try.slices_Compact_string_empty none 0 w).mono ?_
    rintro e w' ⟨rfl, rfl⟩
    exact ⟨rfl, h, ⟨rfl, rfl, rfl, Nat.le_refl _, fun _ _ _ => rfl⟩, Since.of_ext (Ext.refl _)⟩
  · simp only [Value.slice.injEq] at hv
    obtain ⟨rfl, -, rfl⟩ := hv
    rw [Nat.mul_one, flat_cellS, ← L8_len] at ht
    have hC := Try.slices_Compact_string g 0 cap (L8 l) w (Go.holds_of_block hh ht) (by rw [L8_len]; omega) (by rw [L8_len]; exact hc)
    rw [L8_len] at hC
    refine hC.mono ?_
    rintro e w' ⟨rfl, n, rfl⟩
    have hle : (Lib.compact (L8 l)).length ≤ l.length := by
      rw [← L8_len l]
      unfold Lib.compact Lib.compactUpTo
      rw [List.length_map]
      exact Nat.le_trans (List.length_filter_le _ _) (by simp)
    have hts : (Lib.compact (L8 l) ++ List.replicate (l.length - (Lib.compact (L8 l)).length) []).length = (L8 l).length := by rw [List.length_append, List.length_replicate, L8_len]; omega
    have hg2 := Go.grownBy_sorted (w := w) (g := g) (n := n) (os := #[]) (Lib.compact (L8 l) ++ List.replicate (l.length - (Lib.compact (L8 l)).length) []).toArray
    rw [grow_empty] at hg2
    rw [hcl]
    refine ⟨rfl, ?_, hg2, Since.of_grown hg2 (fun k hk => by simp only [Option.some.injEq] at hk; omega)⟩
    have := Go.ownsRow_sorted (w := w) (base := base) (g := g) (cap := cap) (n := n) (os := #[]) (ss := L8 l) (ts := Lib.compact (L8 l) ++ List.replicate (l.length - (Lib.compact (L8 l)).length) []) hts hg hh (by rw [L8_len]; exact hc) hm hs
    rw [grow_empty] at this
    rw [← hcl]
    refine Lst.pre (m := List.replicate (l.length - (Lib.compact (L8 l)).length) (mkS [])) ?_ rfl
    unfold Lst
    have e1 : L8 (compactS l ++ List.replicate (l.length - (Lib.compact (L8 l)).length) (mkS [])) = Lib.compact (L8 l) ++ List.replicate (l.length - (Lib.compact (L8 l)).length) [] := by
      unfold L8
      rw [List.map_append, List.map_replicate]
      have := L8_compactS l
      unfold L8 at this
      rw [this]; rfl
    have e2 : (compactS l ++ List.replicate (l.length - (Lib.compact (L8 l)).length) (mkS [])).length = l.length := by rw [← L8_len, e1, hts, L8_len]
    rw [flat_cellS, e1, e2, hcl]
    rw [L8_len] at this
    exact this
end Go.Proofs.Ytbcpgdidajapoaa

/- slices.Insert of one element into a list that a call keeps in memory of its own: the list with the element at its place. No conditions beyond lengths that fit. -/
import Derived.Test.YtbcpgdidajapoaaDoorLst
import Derived.Laws.CopyRow
import Derived.Lib.AppendZerosOnto
import Derived.Lib.Overlaps
import Derived.Laws.Externs
import Derived.Shelf.RegionOpenPlain
import Derived.Shelf.Spec.SlicesInsert
namespace Go.Proofs.YtbcpgdidajapoaaDoor
open Go.RowKit
section
variable {α : Type} {n : Nat} {cell : α → Nat → Value}
theorem flat_take (l : List α) (i : Nat) (hi : i ≤ l.length) : (flat n cell l).take (i * n) = flat n cell (l.take i) := by
  have e : flat n cell l = flat n cell (l.take i) ++ flat n cell (l.drop i) := by rw [← flat_append, List.take_append_drop]
  have hl : (flat n cell (l.take i)).length = i * n := by rw [flat_length, List.length_take, Nat.min_eq_left hi]
  rw [e, ← hl, List.take_left]
theorem flat_drop (l : List α) (i : Nat) (hi : i ≤ l.length) : (flat n cell l).drop (i * n) = flat n cell (l.drop i) := by
  have e : flat n cell l = flat n cell (l.take i) ++ flat n cell (l.drop i) := by rw [← flat_append, List.take_append_drop]
  have hl : (flat n cell (l.take i)).length = i * n := by rw [flat_length, List.length_take, Nat.min_eq_left hi]
  rw [e, ← hl, List.drop_left]
theorem flat_one_cells [Inhabited α] (h : ∀ (x : α) (j : Nat), j < n → (cell x j).oneCell' = true) (l : List α) : ∀ v ∈ flat n cell l, v.oneCell' = true := by
  intro v hv
  obtain ⟨x, j, _, hj, rfl⟩ := flat_mem hv
  exact h x j hj
theorem flat_at [Inhabited α] {w : World} {b off : Nat} {l : List α} (h : RowsAt n cell w (some ⟨b, off, none⟩) l) : ∀ j v, (flat n cell l)[j]? = some v → w.cell? ⟨b, off + j, none⟩ = some v := by
  intro j v hj
  have hlt : j < (flat n cell l).length := (List.getElem?_eq_some_iff.1 hj).1
  rw [flat_length] at hlt
  obtain ⟨i, q, hi, hq, rfl⟩ := split_index hlt
  rw [flat_get l i hi q hq] at hj
  rw [← hj, ← Nat.add_assoc]
  exact (RowsAt.at h i hi).2 q hq
/-- 'copy' of k elements of n cells each into a row of the call's own. -/
theorem run_copy_rows {P : Program} (w : World) (dT sT ty elem : TypeId) (g o dLen dCap : Nat) (a : Addr) (sLen sCap k : Nat) (cur : Array Value) (t : TypeId) (cs : List Value)
    (hu : P.underlying dT = some (.slice elem)) (hs : (P.info? elem).map (·.size) = some n)
    (hg : w.heap[g]? = some (.cells cur t (0, 0))) (hk : k = Nat.min sLen dLen) (hn : cs.length = k * n)
    (hsrc : ∀ j v, cs[j]? = some v → w.cell? (a.add j) = some v) (hfit : o + cs.length ≤ cur.size) (h1 : ∀ v ∈ cs, v.oneCell' = true) :
    (Builtin.copy_ #[dT, sT] ty #[.slice (some ⟨g, o, none⟩) dLen dCap, .slice (some a) sLen sCap]).run P w =
      .ok (goInt k) (w.setRow g (cur.toList.take o ++ cs ++ cur.toList.drop (o + cs.length)).toArray) := by
  have hl := run_loadCells_list (P := P) w a cs hsrc
  rw [hn] at hl
  have hst := run_storeCells_at P g o t cs 0 cur w hg (by simpa using hfit) h1
  cases hq : P.info? elem with
  | none => simp [hq] at hs
  | some i =>
    have hi : i.size = n := by simpa [hq] using hs
    simp [Builtin.copy_, run_underlying hu, Builtin.lenOf, Builtin.firstCells, sizeOf, typeInfo, hq, hi, ← hk, hl, hst]
end
/-- What a row holds behind the copies. -/
theorem ins_cells {A B X R : List Value} {cur : List Value} {i m n : Nat} (hA : A.length = i * m) (hB : B.length = (n - i) * m) (hX : X.length = m) (hi : i ≤ n) (hc : cur = A ++ R) (hR : (n - i) * m + m ≤ R.length) :
    let c1 := cur.take ((i + 1) * m) ++ B ++ cur.drop ((i + 1) * m + B.length)
    (c1.take (i * m) ++ X ++ c1.drop (i * m + X.length)).take ((n + 1) * m) = A ++ X ++ B ∧ (c1.take (i * m) ++ X ++ c1.drop (i * m + X.length)).length = cur.length := by
  intro c1
  have e1 : (i + 1) * m = i * m + m := Nat.succ_mul i m
  have e2 : (n + 1) * m = i * m + m + (n - i) * m := by
    have : n = i + (n - i) := by omega
    rw [Nat.succ_mul]
    conv => lhs; rw [this, Nat.add_mul]
    omega
  have hcl : cur.length = i * m + R.length := by rw [hc, List.length_append, hA]
  have h1 : c1.take (i * m) = A := by
    show (cur.take ((i + 1) * m) ++ B ++ _).take (i * m) = A
    rw [List.append_assoc, List.take_append_of_le_length (by rw [List.length_take, hcl]; omega), List.take_take, Nat.min_eq_left (by omega), hc, ← hA, List.take_left]
  have h2 : c1.drop (i * m + X.length) = B ++ cur.drop ((i + 1) * m + B.length) := by
    show (cur.take ((i + 1) * m) ++ B ++ _).drop (i * m + X.length) = _
    have : (cur.take ((i + 1) * m)).length = i * m + X.length := by rw [List.length_take, hcl, hX]; omega
    rw [List.append_assoc, ← this, List.drop_left]
  rw [h1, h2]
  constructor
  · have : (A ++ X ++ B).length = (n + 1) * m := by rw [List.length_append, List.length_append, hA, hX, hB, e2]
    rw [← List.append_assoc, ← this, List.take_left]
  · rw [List.length_append, List.length_append, List.length_append, List.length_drop, hA, hX, hB, hcl]; omega
/-- What a new row holds behind the copies. -/
theorem grow_cells {A B X R : List Value} {cur : List Value} {i m n : Nat} (hA : A.length = i * m) (hB : B.length = (n - i) * m) (hX : X.length = m) (hi : i ≤ n) (hc : cur = A ++ R) (hR : (n - i) * m + m ≤ R.length) :
    let c1 := cur.take (i * m) ++ X ++ cur.drop (i * m + X.length)
    (c1.take ((i + 1) * m) ++ B ++ c1.drop ((i + 1) * m + B.length)).take ((n + 1) * m) = A ++ X ++ B ∧ (c1.take ((i + 1) * m) ++ B ++ c1.drop ((i + 1) * m + B.length)).length = cur.length := by
  intro c1
  have e1 : (i + 1) * m = i * m + m := Nat.succ_mul i m
  have e2 : (n + 1) * m = i * m + m + (n - i) * m := by
    have : n = i + (n - i) := by omega
    rw [Nat.succ_mul]
    conv => lhs; rw [this, Nat.add_mul]
    omega
  have hcl : cur.length = i * m + R.length := by rw [hc, List.length_append, hA]
  have h0 : cur.take (i * m) = A := by rw [hc, ← hA, List.take_left]
  have h1 : c1.take ((i + 1) * m) = A ++ X := by
    show (cur.take (i * m) ++ X ++ _).take ((i + 1) * m) = _
    have : (A ++ X).length = (i + 1) * m := by rw [List.length_append, hA, hX, e1]
    rw [h0, ← this, List.take_left]
  have hc1 : c1.length = cur.length := by
    show (cur.take (i * m) ++ X ++ cur.drop (i * m + X.length)).length = _
    rw [h0, List.length_append, List.length_append, List.length_drop, hA, hX, hcl]; omega
  rw [h1]
  constructor
  · have : (A ++ X ++ B).length = (n + 1) * m := by rw [List.length_append, List.length_append, hA, hX, hB, e2]
    rw [← this, List.take_left]
  · rw [List.length_append, List.length_append, List.length_append, List.length_drop, hA, hX, hB, hc1, hcl]; omega
theorem setRow_ne {w : World} {g k : Nat} {c : Array Value} (h : k ≠ g) : (w.setRow g c).heap[k]? = w.heap[k]? := by
  unfold World.setRow
  simp [Array.getElem?_modify, Ne.symm h]
theorem setRow_size {w : World} {g : Nat} {c : Array Value} : (w.setRow g c).heap.size = w.heap.size := by
  unfold World.setRow; simp
/-- A row of the call's own is written whole. -/
theorem since_setRow {w : World} {g base : Nat} (c : Array Value) (hg : base ≤ g) : Since base w (w.setRow g c) := fun w0 he hb => by
  refine .of_below ⟨he.below.os, he.below.tape, he.below.output, ?_, fun k hk => ?_⟩
  · rw [setRow_size]; exact he.size
  · rw [setRow_ne (by omega)]; exact he.below.block k hk
theorem Since.refl (base : Nat) (w : World) : Since base w w := fun _ he _ => he
theorem Since.drew {base : Nat} {a b : World} (h : Since base a b) : Since base a b.drew := fun w0 he hb => (h w0 he hb).drew
theorem Since.alloc {base : Nat} {a b : World} (h : Since base a b) (o : Obj) : Since base a (b.alloc o) := fun w0 he hb => (h w0 he hb).alloc o
theorem own_of_row_set {T n : Nat} {w : World} {base g cap : Nat} {k : Nat} {xs : List Value} {cur : Array Value} (hw : w.heap[g]? = some (.cells cur T (0, 0))) (hg : base ≤ g) (hk : k ≤ cap) (hc : cap ≤ maxLen) (hs : cur.size = cap * n) (hx : xs.length = k * n) (ht : cur.toList.take (k * n) = xs) :
    w.ownsRow base T n (.slice (some ⟨g, 0, none⟩) k cap) k xs := ⟨hx, .inr ⟨g, cap, cur, rfl, hg, hw, hk, hc, hs, ht⟩⟩
theorem shape_of_cells {w : World} {b : Nat} {cs : Array Value} {T : TypeId} {fz : Nat × Nat} (h : w.heap[b]? = some (.cells cs T fz)) : w.shape? b = some (T, cs.size) := by
  unfold World.shape?; rw [h]
theorem nf_of_cells {w : World} {b o : Nat} {cs : Array Value} {T : TypeId} (h : w.heap[b]? = some (.cells cs T (0, 0))) : w.frozen? ⟨b, o, none⟩ = false := by
  unfold World.frozen?; rw [h]; simp
end Go.Proofs.YtbcpgdidajapoaaDoor

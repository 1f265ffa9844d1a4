/- Lists that a call builds in memory of its own: what they hold, how they grow by 'append', how an element is written. No conditions. -/
import Derived.Test.YtmkmmenkjbmppaaDoorOut
import Derived.Test.YtmkmmenkjbmppaaDoorGrow
import Derived.Lib.SliceRun
namespace Go.Proofs.YtmkmmenkjbmppaaDoor
open Go.RowKit
theorem nth_pre {α : Type} [Inhabited α] {o : List α} {x : α} {k : Nat} (h : k < o.length) : nth (o ++ [x]) k = nth o k := by simp [nth, List.getElem?_append_left h]
theorem nth_last {α : Type} [Inhabited α] (o : List α) (x : α) : nth (o ++ [x]) o.length = x := by simp [nth]
section
variable {α : Type} {n : Nat} {cell : α → Nat → Value}
/-- The cells of a list's elements, one after the other. -/
def flat (n : Nat) (cell : α → Nat → Value) (l : List α) : List Value := l.flatMap fun x => (List.range n).map (cell x)
theorem flat_nil : flat n cell ([] : List α) = [] := rfl
theorem flat_append (l m : List α) : flat n cell (l ++ m) = flat n cell l ++ flat n cell m := by unfold flat; rw [List.flatMap_append]
theorem flat_length (l : List α) : (flat n cell l).length = l.length * n := by
  induction l with
  | nil => simp [flat]
  | cons x l ih =>
    have : flat n cell (x :: l) = (List.range n).map (cell x) ++ flat n cell l := by simp [flat]
    rw [this, List.length_append, ih, List.length_map, List.length_range, List.length_cons, Nat.succ_mul]; omega
theorem nth_cons_succ [Inhabited α] (x : α) (l : List α) (k : Nat) : nth (x :: l) (k + 1) = nth l k := by simp [nth]
theorem nth_cons_zero [Inhabited α] (x : α) (l : List α) : nth (x :: l) 0 = x := by simp [nth]
theorem flat_get [Inhabited α] : ∀ (l : List α) (k : Nat), k < l.length → ∀ j, j < n → (flat n cell l)[k * n + j]? = some (cell (nth l k) j)
  | [], k, hk, _, _ => absurd hk (Nat.not_lt_zero _)
  | x :: l, 0, _, j, hj => by
    have : flat n cell (x :: l) = (List.range n).map (cell x) ++ flat n cell l := by simp [flat]
    rw [this, Nat.zero_mul, Nat.zero_add, List.getElem?_append_left (by simpa using hj)]; simp [hj, nth_cons_zero]
  | x :: l, k + 1, hk, j, hj => by
    have : flat n cell (x :: l) = (List.range n).map (cell x) ++ flat n cell l := by simp [flat]
    rw [this, show (k + 1) * n + j = n + (k * n + j) by rw [Nat.succ_mul]; omega, List.getElem?_append_right (by simp), nth_cons_succ]
    rw [show n + (k * n + j) - ((List.range n).map (cell x)).length = k * n + j by simp]
    exact flat_get l k (by simpa using hk) j hj
theorem flat_mem {l : List α} {u : Value} (h : u ∈ flat n cell l) : ∃ x j, x ∈ l ∧ j < n ∧ u = cell x j := by
  simp only [flat, List.mem_flatMap, List.mem_map, List.mem_range] at h
  obtain ⟨x, hx, j, hj, rfl⟩ := h
  exact ⟨x, j, hx, hj, rfl⟩
/-- Every index below is that of a row and a place in it. -/
theorem split_index {k n m : Nat} (h : k < m * n) : ∃ i j, i < m ∧ j < n ∧ k = i * n + j := by
  have hn : 0 < n := by
    rcases Nat.eq_zero_or_pos n with rfl | h'
    · simp at h
    · exact h'
  refine ⟨k / n, k % n, (Nat.div_lt_iff_lt_mul hn).2 h, Nat.mod_lt _ hn, ?_⟩
  rw [Nat.mul_comm]; exact (Nat.div_add_mod k n).symm
/-- v is a slice of the call's own, nil or in a block from base on, and holds l. -/
def Lst (T n : Nat) (cell : α → Nat → Value) (w : World) (base : Nat) (v : Value) (l : List α) : Prop := w.ownsRow base T n v l.length (flat n cell l)
variable {T : Nat} {w w' : World} {base : Nat} {v : Value} {l : List α}
theorem Lst.nil (w : World) (base : Nat) : Lst T n cell w base (.slice none 0 0) ([] : List α) := World.ownsRow_nil w base T n
theorem Lst.ext (h : Lst T n cell w base v l) (he : Ext w w') : Lst T n cell w' base v l := ownsRow_ext h he
theorem Lst.new (w : World) (base : Nat) (hb : base ≤ w.heap.size) : Lst T n cell (w.alloc (.cells #[] T)) base (.slice (some ⟨w.heap.size, 0, none⟩) 0 0) ([] : List α) :=
  World.ownsRow_made w #[] 0 hb (by unfold maxLen; omega) (by simp)
theorem Lst.made (w : World) (base : Nat) (hb : base ≤ w.heap.size) (zs : Array Value) (c : Nat) (hc : c ≤ maxLen) : Lst T n cell (w.alloc (.cells (madeCells zs (c * n)) T)) base (.slice (some ⟨w.heap.size, 0, none⟩) 0 c) ([] : List α) :=
  own_made w base hb T zs n c hc
theorem Lst.shape [Inhabited α] (h : Lst T n cell w base v l) : ∃ a cap, v = .slice a l.length cap ∧ l.length ≤ cap ∧ cap ≤ 9223372036854775807 ∧ RowsAt n cell w a l ∧ Own w base T n a l.length := by
  have hlt := ownsRow_lt h
  rcases h.2 with ⟨hv, hx⟩ | ⟨g, cap, cur, hv, hg, hh, hc, hm, hs, ht⟩
  · have hl : l.length = 0 := hx
    refine ⟨none, 0, by rw [hv, hl], by omega, by omega, fun k hk => absurd hk (by omega), .inl hl⟩
  · refine ⟨some ⟨g, 0, none⟩, cap, hv, hc, by unfold maxLen at hm; omega, fun k hk => ⟨g, 0, rfl, hlt g (by rw [hv]; rfl), fun j hj => ?_⟩, .inr ⟨g, _, rfl, hg, ⟨cur, hh, rfl⟩, ?_⟩⟩
    · have hlt' : k * n + j < l.length * n := by
        have : (k + 1) * n ≤ l.length * n := Nat.mul_le_mul_right n hk
        rw [Nat.succ_mul] at this; omega
      have := flat_get (cell := cell) l k hk j hj
      rw [← ht, List.getElem?_take, if_pos hlt'] at this
      unfold World.cell?
      rw [hh, Nat.zero_add]
      simpa using this
    · rw [hs]; exact Nat.mul_le_mul_right n hc
/-- What a call or a statement that writes only into blocks from base on leaves as it was. -/
def Since (base : Nat) (w w' : World) : Prop := ∀ w0, Ext w0 w → w0.heap.size ≤ base → Ext w0 w'
theorem Since.ext {w0 : World} (h : Since base w w') (he : Ext w0 w) (hb : w0.heap.size ≤ base) : Ext w0 w' := h w0 he hb
theorem addr_add (b off k : Nat) : (⟨b, off, none⟩ : Addr).add k = ⟨b, off + k, none⟩ := by
  unfold Addr.add; split <;> simp <;> omega
/-- append(dst, src...): dst nil or the call's own. -/
theorem wpList_pushL [Inhabited α] {P : Program} {ops : Array Oper} {rest : List Oper} {o : Oper} {a : Act} {Q : Exit → Act → World → Prop} {t bytes : Nat} (E : El P t T n bytes) (hcell : ∀ x j, j < n → (cell x j).oneCell' = true) (hgd : o.guard = none) (s x : Operand)
    (ho : o.op = .call { callee := .builtin .append, args := #[s, x], argTypes := #[t, t] }) (base : Nat) (v : Value) (l : List α) (hs : a.eval s = v) (hown : Lst T n cell w base v l)
    (ad : Addr) (m c : Nat) (l2 : List α) (hm : l2.length = m) (hx : a.eval x = .slice (some ad) m c) (hR : RowsAt n cell w (some ad) l2)
    (h63 : l.length + m ≤ 9223372036854775807) (hbytes : (l.length + m) * bytes ≤ 140737488355328) (hbase : base ≤ w.heap.size)
    (h : ∀ v' w', Lst T n cell w' base v' (l ++ l2) → Since base w w' → w.grownBy w' v.ownBlock → wpList P ops Q rest (a.put o.dst v') w') : wpList P ops Q (o :: rest) a w := by
  subst hm
  refine wpList_push E hgd s x ho base v l.length (flat n cell l) hs hown ad l2.length c (flat n cell l2) hx (flat_length l2) (fun k u hu => ?_) (fun u hu => ?_) (by unfold maxLen; omega) hbytes hbase ?_
  · have hk : k < l2.length * n := by
      have := (List.getElem?_eq_some_iff.1 hu).1
      rwa [flat_length] at this
    obtain ⟨i, j, hi, hj, rfl⟩ := split_index hk
    rw [flat_get l2 i hi j hj] at hu
    obtain ⟨b, off, e, hb, hc⟩ := hR i hi
    simp only [Option.some.injEq] at e
    subst e
    rw [← hu, addr_add, ← Nat.add_assoc]; exact hc j hj
  · obtain ⟨y, j, _, hj, rfl⟩ := flat_mem hu; exact hcell y j hj
  · intro v' w' h1 h2 _
    refine h v' w' ?_ (fun w0 he hb => he.grown h2 (fun k hk => Nat.le_trans hb (ownBlock_le hown k hk))) h2
    unfold Lst
    rw [List.length_append, flat_append]; exact h1
/-- An element in a block of its own. -/
theorem rows_new [Inhabited α] {T : TypeId} (w : World) (cs : Array Value) (x : α) (h : ∀ j, j < n → cs[j]? = some (cell x j)) : RowsAt n cell (w.alloc (.cells cs T)) (some ⟨w.heap.size, 0, none⟩) [x] := fun k hk => by
  obtain rfl : k = 0 := by simp at hk; omega
  exact ⟨_, _, rfl, by rw [size_new]; omega, fun j hj => by simp only [Nat.zero_mul, Nat.zero_add]; rw [cell_new]; exact h j hj⟩
theorem rows_int {T : TypeId} (w : World) (x : Int) {n : Nat} (hn : n = w.heap.size) : IntAt (w.alloc (.cells #[.int .i64 x] T)) (some ⟨n, 0, none⟩) [x] := by
  subst hn
  refine rows_new (n := 1) (cell := fun (x : Int) (_ : Nat) => Value.int .i64 x) w #[.int .i64 x] x (fun j hj => ?_)
  obtain rfl : j = 0 := by omega
  rfl
theorem nth_set_same [Inhabited α] (l : List α) (k : Nat) (y : α) (h : k < l.length) : nth (l.set k y) k = y := by simp [nth, h]
theorem nth_set_other [Inhabited α] (l : List α) (k i : Nat) (y : α) (h : k ≠ i) : nth (l.set k y) i = nth l i := by
  unfold nth; rw [List.getD_eq_getElem?_getD, List.getD_eq_getElem?_getD, List.getElem?_set_ne h]
/-- A row of a block is written. -/
theorem RowsAt.set [Inhabited α] {W : World} {g N : Nat} {T : TypeId} {l : List α} {k : Nat} {y : α} (h : RowsAt n cell W (some ⟨g, 0, none⟩) l) (hB : Blk W g T N) (hN : l.length * n ≤ N) (hk : k < l.length) (vs : List Value) (hl : vs.length = n) (hv : ∀ j, j < n → vs[j]? = some (cell y j)) :
    RowsAt n cell (W.setCells g (k * n) vs) (some ⟨g, 0, none⟩) (l.set k y) := by
  intro i hi
  rw [List.length_set] at hi
  refine ⟨g, 0, rfl, (hB.setCells g vs (k * n) W).lt, fun j hj => ?_⟩
  obtain ⟨b, off, e, hb, hc⟩ := h i hi
  simp only [Option.some.injEq, Addr.mk.injEq, and_true] at e
  obtain ⟨rfl, rfl⟩ := e
  have hin : (k + 1) * n ≤ N := Nat.le_trans (Nat.mul_le_mul_right n hk) hN
  rw [Nat.succ_mul] at hin
  rw [Nat.zero_add]
  by_cases hik : i = k
  · subst hik
    rw [nth_set_same l i y hk]
    have := World.cell?_setCells_in g vs (i * n) W (fun j' hj' => by obtain ⟨u, hu⟩ := hB.cell (o := i * n + j') (by omega); rw [hu]; rfl) j (by omega)
    rw [this, ← hv j hj, List.getElem?_eq_getElem]
  · rw [nth_set_other l k i y (Ne.symm hik)]
    have e : (W.setCells g (k * n) vs).cell? ⟨g, i * n + j, none⟩ = W.cell? ⟨g, i * n + j, none⟩ := by
      refine World.cell?_setCells_out g vs _ W ⟨g, i * n + j, none⟩ (fun _ _ => ?_)
      rcases Nat.lt_or_ge i k with h1 | h1
      · have : (i + 1) * n ≤ k * n := Nat.mul_le_mul_right n h1
        rw [Nat.succ_mul] at this
        left; show i * n + j < k * n; omega
      · have : (k + 1) * n ≤ i * n := Nat.mul_le_mul_right n (by omega)
        rw [Nat.succ_mul] at this
        right; show k * n + vs.length ≤ i * n + j; omega
    rw [e]
    have := hc j hj; rwa [Nat.zero_add] at this
/-- A block that the writing leaves alone. -/
theorem Blk.grown {g T N : Nat} {row : Option Nat} (h : Blk w g T N) (hg : w.grownBy w' row) (hne : row ≠ some g) : Blk w' g T N := by
  have hl := h.lt
  obtain ⟨cs, h, e⟩ := h
  exact ⟨cs, by rw [hg.block g hl (fun e => hne e.symm)]; exact h, e⟩
theorem cell_grown {g o : Nat} {u : Value} {row : Option Nat} (h : w.cell? ⟨g, o, none⟩ = some u) (hg : w.grownBy w' row) (hne : row ≠ some g) : w'.cell? ⟨g, o, none⟩ = some u := by
  rw [← h]; exact World.cell?_of_block (w := w) (hg.block g (block_lt h) (fun e => hne e.symm))
theorem RowsAt.grown [Inhabited α] {g o : Nat} {row : Option Nat} (h : RowsAt n cell w (some ⟨g, o, none⟩) l) (hg : w.grownBy w' row) (hne : row ≠ some g) : RowsAt n cell w' (some ⟨g, o, none⟩) l := fun k hk => by
  obtain ⟨b, off, e, hb, hc⟩ := h k hk
  have e' := e
  simp only [Option.some.injEq, Addr.mk.injEq, and_true] at e'
  obtain ⟨rfl, rfl⟩ := e'
  exact ⟨g, o, rfl, Nat.lt_of_lt_of_le hb hg.size, fun j hj => cell_grown (hc j hj) hg hne⟩
/-- The own block of a list from base on is none below. -/
theorem Lst.row_ne (h : Lst T n cell w base v l) {g : Nat} (hg : g < base) : v.ownBlock ≠ some g := fun e => by
  have := ownBlock_le h g e; omega
/-- A cell below the list's base is written. -/
theorem Lst.set (h : Lst T n cell w base v l) {b o : Nat} (hb : b < base) (u : Value) : Lst T n cell (w.setCell ⟨b, o, none⟩ u) base v l := by
  refine ⟨h.1, ?_⟩
  rcases h.2 with h2 | ⟨g, cap, cur, hv, hg, hh, r⟩
  · exact .inl h2
  · exact .inr ⟨g, cap, cur, hv, hg, by rw [heap_setCell_other w ⟨b, o, none⟩ g u (by show g ≠ b; omega)]; exact hh, r⟩
theorem Lst.setCells (b : Nat) : ∀ (us : List Value) (o : Nat) (w : World), Lst T n cell w base v l → b < base → Lst T n cell (w.setCells b o us) base v l
  | [], _, _, h, _ => h
  | u :: us, o, _, h, hb => Lst.setCells b us (o + 1) _ (h.set hb u) hb
theorem Since.of_set {g o : Nat} (u : Value) (hg : base ≤ g) : Since base w (w.setCell ⟨g, o, none⟩ u) := fun _ he hb => he.setCell (p := ⟨g, o, none⟩) (Nat.le_trans hb hg) u
theorem Since.trans {w'' : World} (h : Since base w w') (k : Since base w' w'') : Since base w w'' := fun w0 he hb => k w0 (h w0 he hb) hb
theorem Since.of_ext (h : Ext w w') : Since base w w' := fun _ he _ => he.trans h
theorem Since.of_grown {row : Option Nat} (hg : w.grownBy w' row) (hr : ∀ k, row = some k → base ≤ k) : Since base w w' := fun _ he hb => he.grown hg (fun k hk => Nat.le_trans hb (hr k hk))
/-- One number of a row of numbers is written. -/
theorem IntAt.set {W : World} {g N : Nat} {T : TypeId} {l : List Int} {k : Nat} (y : Int) (h : IntAt W (some ⟨g, 0, none⟩) l) (hB : Blk W g T N) (hN : l.length ≤ N) (hk : k < l.length) : IntAt (W.setCell ⟨g, k, none⟩ (.int .i64 y)) (some ⟨g, 0, none⟩) (l.set k y) := by
  have hv : ∀ j, j < 1 → ([Value.int .i64 y] : List Value)[j]? = some ((fun (x : Int) (_ : Nat) => Value.int .i64 x) y j) := fun j hj => by
    obtain rfl : j = 0 := by omega
    rfl
  have := RowsAt.set (n := 1) (cell := fun (x : Int) (_ : Nat) => Value.int .i64 x) (y := y) h hB (by omega) hk [.int .i64 y] rfl hv
  rwa [Nat.mul_one] at this
end
end Go.Proofs.YtmkmmenkjbmppaaDoor

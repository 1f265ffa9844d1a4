/- Facts about worlds that only grow: 'w.lift x' is w with the blocks x.1 laid behind its own and another count of draws. For every contract of this seat: what a call leaves is such a world. No conditions. -/
import Derived.WalkKit
import Derived.WalkSpells
import Derived.WalkLawsBesides
import Derived.BigQuiet
import Derived.Lib.Hide
import Derived.Laws.IdiomCopy
namespace Go.Proofs.YtmkmmenkjbmppaaDoor
open Go.RowKit

structure Growth where
  blocks : Array Obj
  drawn : Nat
instance : Inhabited Growth := ⟨⟨#[], 0⟩⟩
/-- w with new blocks behind its own, the count of draws moved. -/
def lift (w : World) (x : Growth) : World := { w with heap := w.heap ++ x.blocks, drawn := x.drawn }

@[simp, go_sem] theorem lift_size (w : World) (x : Growth) : (lift w x).heap.size = w.heap.size + x.blocks.size := by simp [lift]
@[simp, go_sem] theorem lift_tape (w : World) (x : Growth) : (lift w x).tape = w.tape := rfl
@[simp, go_sem] theorem lift_os (w : World) (x : Growth) : (lift w x).os = w.os := rfl
theorem lift_block (w : World) (x : Growth) (k : Nat) (h : k < w.heap.size) : (lift w x).heap[k]? = w.heap[k]? := by
  simp [lift, Array.getElem?_append_left h]
@[go_sem] theorem lift_cell (w : World) (x : Growth) (b o : Nat) (h : b < w.heap.size) : (lift w x).cell? ⟨b, o, none⟩ = w.cell? ⟨b, o, none⟩ :=
  World.cell?_of_block (w := w) (lift_block w x b h)
@[go_sem] theorem lift_frozen (w : World) (x : Growth) (b o : Nat) (h : b < w.heap.size) : (lift w x).frozen? ⟨b, o, none⟩ = w.frozen? ⟨b, o, none⟩ :=
  World.frozen?_of_block (w := w) (lift_block w x b h)
theorem lift_below (w : World) (x : Growth) : Below w.heap.size w (lift w x) := ⟨rfl, rfl, rfl, by simp, fun k h => lift_block w x k h⟩

@[go_sem] theorem lt_add_r {b n m : Nat} (h : b < n) : (b < n + m) = True := eq_true (by omega)
@[go_sem] theorem lt_grown1 (b k ma : Nat) : (b < b + (k + 1) + ma) = True := eq_true (by omega)
@[go_sem] theorem lt_grown2 (b k ma mb : Nat) : (b < b + (k + 1) + ma + mb) = True := eq_true (by omega)
@[go_sem] theorem lt_grown3 (b k ma mb mc : Nat) : (b < b + (k + 1) + ma + mb + mc) = True := eq_true (by omega)
@[go_sem] theorem lt_grown4 (b k ma mb mc md : Nat) : (b < b + (k + 1) + ma + mb + mc + md) = True := eq_true (by omega)
@[go_sem] theorem lt_grown5 (b k ma mb mc md me : Nat) : (b < b + (k + 1) + ma + mb + mc + md + me) = True := eq_true (by omega)
@[go_sem] theorem lt_grown6 (b k ma mb mc md me mf : Nat) : (b < b + (k + 1) + ma + mb + mc + md + me + mf) = True := eq_true (by omega)
@[go_sem] theorem lt_grown7 (b k ma mb mc md me mf mg : Nat) : (b < b + (k + 1) + ma + mb + mc + md + me + mf + mg) = True := eq_true (by omega)
@[go_sem] theorem lt_grown8 (b k ma mb mc md me mf mg mh : Nat) : (b < b + (k + 1) + ma + mb + mc + md + me + mf + mg + mh) = True := eq_true (by omega)
@[go_sem] theorem lt_grown9 (b k ma mb mc md me mf mg mh mi : Nat) : (b < b + (k + 1) + ma + mb + mc + md + me + mf + mg + mh + mi) = True := eq_true (by omega)
@[go_sem] theorem lt_grown10 (b k ma mb mc md me mf mg mh mi mj : Nat) : (b < b + (k + 1) + ma + mb + mc + md + me + mf + mg + mh + mi + mj) = True := eq_true (by omega)
theorem heap_split (a b : Array Obj) (h0 : a.size ≤ b.size) (h : ∀ k, k < a.size → b[k]? = a[k]?) : b = a ++ b.extract a.size b.size := by
  apply Array.ext_getElem?
  intro i
  by_cases hi : i < a.size
  · rw [h i hi, Array.getElem?_append_left hi]
  · rw [Array.getElem?_append_right (by omega), Array.getElem?_extract]
    have : a.size + (i - a.size) = i := by omega
    rw [this]
    by_cases hb : i < b.size
    · rw [if_pos (by simp; omega)]
    · rw [if_neg (by simp; omega)]; simp; omega

theorem lift_of_below {w w' : World} (h : Below w.heap.size w w') : ∃ x, w' = lift w x :=
  ⟨⟨w'.heap.extract w.heap.size w'.heap.size, w'.drawn⟩, by
    obtain ⟨h1, h2, h3, h4, h5⟩ := h
    have e := heap_split w.heap w'.heap h4 h5
    cases w with | mk hp tp dr os ou => cases w' with | mk hp' tp' dr' os' ou' =>
    simp only [lift] at *
    subst h1; subst h2; subst h3
    rw [← e]⟩

/-- w' is w, grown. -/
def Ext (w w' : World) : Prop := ∃ x, w' = lift w x
theorem Ext.of_below {w w' : World} (h : Below w.heap.size w w') : Ext w w' := lift_of_below h
theorem Ext.below {w w' : World} (h : Ext w w') : Below w.heap.size w w' := by obtain ⟨x, rfl⟩ := h; exact lift_below w x
theorem Ext.refl (w : World) : Ext w w := .of_below (Below.refl _ _)
theorem Ext.trans {a b c : World} (h : Ext a b) (k : Ext b c) : Ext a c := .of_below (h.below.trans (k.below.mono h.below.size))
theorem Ext.lift {a b : World} (h : Ext a b) (x : Growth) : Ext a (lift b x) := h.trans ⟨x, rfl⟩
theorem Ext.alloc {a b : World} (h : Ext a b) (o : Obj) : Ext a (b.alloc o) := h.trans (.of_below ((Below.refl _ _).alloc (Nat.le_refl _) o))
theorem Ext.drew {a b : World} (h : Ext a b) : Ext a b.drew := .of_below h.below.drew
theorem Ext.drewN {a b : World} (h : Ext a b) (n : Nat) : Ext a (b.drewN n) := .of_below ⟨h.below.os, h.below.tape, h.below.output, h.below.size, h.below.block⟩
theorem Ext.setCell {a b : World} (h : Ext a b) {p : Addr} (hp : a.heap.size ≤ p.block) (u : Value) : Ext a (b.setCell p u) := .of_below (h.below.setCell hp u)
theorem Ext.size {a b : World} (h : Ext a b) : a.heap.size ≤ b.heap.size := h.below.size
theorem Ext.cell {a b : World} (h : Ext a b) {k o : Nat} {v : Value} (hc : a.cell? ⟨k, o, none⟩ = some v) : b.cell? ⟨k, o, none⟩ = some v := cell_later h.below hc
theorem Ext.frozen {a b : World} (h : Ext a b) {k o : Nat} (hk : k < a.heap.size) : b.frozen? ⟨k, o, none⟩ = a.frozen? ⟨k, o, none⟩ := h.below.frozen (p := ⟨k, o, none⟩) hk
theorem block_lt {w : World} {b o : Nat} {v : Value} (h : w.cell? ⟨b, o, none⟩ = some v) : b < w.heap.size := World.block_lt_of_cell? w ⟨b, o, none⟩ h

theorem cell_new (w : World) (cs : Array Value) (T : TypeId) (z : Nat × Nat) (o : Nat) : (w.alloc (.cells cs T z)).cell? ⟨w.heap.size, o, none⟩ = cs[o]? := by
  have e : (w.alloc (.cells cs T z)).heap[w.heap.size]? = some (.cells cs T z) := by
    show (w.heap.push _)[w.heap.size]? = _
    simp
  unfold World.cell?
  rw [e]; rfl
theorem size_new (w : World) (o : Obj) : (w.alloc o).heap.size = w.heap.size + 1 := by
  show (w.heap.push _).size = _
  simp
/-- 'make([]T, n)': a new block. -/
theorem run_make_blk {P : Program} {t e : TypeId} {zs : Array Value} {m bytes : Nat} (ht : P.underlying t = some (.slice e)) (hinfo : (P.info? e).map (fun i => (i.zero.map Value.cells, i.size, i.bytes)) = some (some zs, m, bytes))
    (kl kc : IntKind) (n : Nat) (hbytes : bytes * n ≤ 281474976710656) (h63 : n ≤ 9223372036854775807) (w : World) :
    (Instr.makeSlice t (.int kl (n : Int)) (.int kc (n : Int))).run P w = .ok (.slice (some ⟨w.heap.size, 0, none⟩) n n) (w.alloc (.cells (madeCells zs (n * m)) e)) := by
  cases hi : P.info? e with
  | none => rw [hi] at hinfo; cases hinfo
  | some i =>
    rw [hi] at hinfo
    simp only [Option.map_some, Option.some.injEq, Prod.mk.injEq] at hinfo
    obtain ⟨h1, h2, h3⟩ := hinfo
    cases hz : i.zero with
    | none => rw [hz] at h1; cases h1
    | some z =>
      rw [hz] at h1
      simp only [Option.map_some, Option.some.injEq] at h1
      have hb' : (i.bytes : Int) * (n : Int) ≤ 281474976710656 := by
        have h : ((i.bytes * n : Nat) : Int) ≤ 281474976710656 := by rw [h3]; omega
        rwa [Int.natCast_mul] at h
      have hr := run_make (P := P) w t e i z ht hi hz kl kc n n (by omega) (Int.le_refl _) hb' (by omega)
      simp only [Int.toNat_natCast, h2, h1] at hr
      exact hr
/-- 'make([]T, 0, n)': a new block. -/
theorem run_make_cap {P : Program} {t e : TypeId} {zs : Array Value} {m bytes : Nat} (ht : P.underlying t = some (.slice e)) (hinfo : (P.info? e).map (fun i => (i.zero.map Value.cells, i.size, i.bytes)) = some (some zs, m, bytes))
    (kl kc : IntKind) (n : Nat) (hbytes : bytes * n ≤ 281474976710656) (h63 : n ≤ 9223372036854775807) (w : World) :
    (Instr.makeSlice t (.int kl 0) (.int kc (n : Int))).run P w = .ok (.slice (some ⟨w.heap.size, 0, none⟩) 0 n) (w.alloc (.cells (madeCells zs (n * m)) e)) := by
  cases hi : P.info? e with
  | none => rw [hi] at hinfo; cases hinfo
  | some i =>
    rw [hi] at hinfo
    simp only [Option.map_some, Option.some.injEq, Prod.mk.injEq] at hinfo
    obtain ⟨h1, h2, h3⟩ := hinfo
    cases hz : i.zero with
    | none => rw [hz] at h1; cases h1
    | some z =>
      rw [hz] at h1
      simp only [Option.map_some, Option.some.injEq] at h1
      have hb' : (i.bytes : Int) * (n : Int) ≤ 281474976710656 := by
        have h : ((i.bytes * n : Nat) : Int) ≤ 281474976710656 := by rw [h3]; omega
        rwa [Int.natCast_mul] at h
      have hr := run_make (P := P) w t e i z ht hi hz kl kc 0 n (by omega) (by omega) hb' (by omega)
      simp only [Int.toNat_natCast, Int.toNat_zero, h2, h1] at hr
      exact hr
theorem own_made (w : World) (base : Nat) (hb : base ≤ w.heap.size) (e : TypeId) (zs : Array Value) (m n : Nat) (hn : n ≤ maxLen) : (w.alloc (.cells (madeCells zs (n * m)) e)).ownsRow base e m (.slice (some ⟨w.heap.size, 0, none⟩) 0 n) 0 [] :=
  ⟨by simp, .inr ⟨w.heap.size, n, madeCells zs (n * m), rfl, hb, by show (w.heap.push _)[w.heap.size]? = _; simp, Nat.zero_le _, hn, size_madeCells _ _, by simp⟩⟩
/-! ### A block of the call's own -/
/-- Block g holds n cells, none of them frozen. -/
def Blk (w : World) (g : Nat) (T : TypeId) (n : Nat) : Prop := ∃ cs : Array Value, w.heap[g]? = some (.cells cs T (0, 0)) ∧ cs.size = n
section
variable {w w' : World} {g : Nat} {T : TypeId} {n : Nat}
theorem Blk.new (w : World) (cs : Array Value) (T : TypeId) : Blk (w.alloc (.cells cs T)) w.heap.size T cs.size := ⟨cs, by show (w.heap.push _)[w.heap.size]? = _; simp, rfl⟩
theorem Blk.lt (h : Blk w g T n) : g < w.heap.size := by
  obtain ⟨cs, h, _⟩ := h
  rcases Nat.lt_or_ge g w.heap.size with h1 | h1
  · exact h1
  · rw [Array.getElem?_eq_none h1] at h; cases h
theorem Blk.ext (h : Blk w g T n) (he : Ext w w') : Blk w' g T n := by
  have hl := h.lt
  obtain ⟨cs, h, e⟩ := h
  exact ⟨cs, by rw [he.below.block g hl]; exact h, e⟩
theorem Blk.set (h : Blk w g T n) (b o : Nat) (v : Value) : Blk (w.setCell ⟨b, o, none⟩ v) g T n := by
  obtain ⟨cs, h, e⟩ := h
  by_cases hb : g = b
  · subst hb
    exact ⟨cs.setIfInBounds o v, heap_setCell_same w g o cs T v h, by simp [e]⟩
  · exact ⟨cs, by rw [heap_setCell_other w ⟨b, o, none⟩ g v hb]; exact h, e⟩
theorem Blk.frozen (h : Blk w g T n) (o : Nat) : w.frozen? ⟨g, o, none⟩ = false := by
  obtain ⟨cs, h, _⟩ := h
  unfold World.frozen?; rw [h]; simp
theorem Blk.cell (h : Blk w g T n) {o : Nat} (ho : o < n) : ∃ v, w.cell? ⟨g, o, none⟩ = some v := by
  obtain ⟨cs, h, e⟩ := h
  subst e
  exact ⟨cs[o], by unfold World.cell?; rw [h]; simp [ho]⟩
theorem Blk.same (h : Blk w g T n) {o : Nat} (ho : o < n) (v : Value) : (w.setCell ⟨g, o, none⟩ v).cell? ⟨g, o, none⟩ = some v := by
  obtain ⟨u, hu⟩ := h.cell ho; exact World.cell?_setCell_same w ⟨g, o, none⟩ v hu
end
theorem cell_other (w : World) {b o c p : Nat} (h : ¬ (b = c ∧ o = p)) (v : Value) : (w.setCell ⟨b, o, none⟩ v).cell? ⟨c, p, none⟩ = w.cell? ⟨c, p, none⟩ :=
  World.cell?_setCell_other w ⟨b, o, none⟩ ⟨c, p, none⟩ v (by intro e; simp only [Addr.mk.injEq, and_true] at e; exact h e)
theorem Blk.setCells {g : Nat} {T : TypeId} {n : Nat} (b : Nat) : ∀ (vs : List Value) (o : Nat) (w : World), Blk w g T n → Blk (w.setCells b o vs) g T n
  | [], _, _, h => h
  | v :: vs, o, _, h => Blk.setCells b vs (o + 1) _ (h.set b o v)
/-- The k-th row of a block is written. -/
theorem fill_row {W : World} {g : Nat} {T : TypeId} {n m k : Nat} {c : Nat → Nat → Value} (vs : List Value) (hB : Blk W g T n) (hm : (k + 1) * m ≤ n) (hl : vs.length = m)
    (hc : ∀ i, i < k → ∀ j, j < m → W.cell? ⟨g, i * m + j, none⟩ = some (c i j)) (hv : ∀ j, j < m → vs[j]? = some (c k j)) :
    Blk (W.setCells g (k * m) vs) g T n ∧ ∀ i, i < k + 1 → ∀ j, j < m → (W.setCells g (k * m) vs).cell? ⟨g, i * m + j, none⟩ = some (c i j) := by
  have e1 : (k + 1) * m = k * m + m := Nat.succ_mul k m
  refine ⟨hB.setCells g vs _ W, fun i hi j hj => ?_⟩
  rcases Nat.lt_or_ge i k with h | h
  · have : (i + 1) * m ≤ k * m := Nat.mul_le_mul_right m h
    have e2 : (i + 1) * m = i * m + m := Nat.succ_mul i m
    rw [World.cell?_setCells_out g vs _ W ⟨g, i * m + j, none⟩ (fun _ _ => .inl (by show i * m + j < k * m; omega))]
    exact hc i h j hj
  · obtain rfl : i = k := by omega
    have := World.cell?_setCells_in g vs (i * m) W (fun j' hj' => by obtain ⟨u, hu⟩ := hB.cell (o := i * m + j') (by omega); rw [hu]; rfl) j (by omega)
    rw [this, ← hv j hj, List.getElem?_eq_getElem]
theorem fill_one {W : World} {g : Nat} {T : TypeId} {n k : Nat} {c : Nat → Value} {v : Value} (hB : Blk W g T n) (hk : k < n) (hc : ∀ i, i < k → W.cell? ⟨g, i, none⟩ = some (c i)) (hv : v = c k) :
    Blk (W.setCell ⟨g, k, none⟩ v) g T n ∧ ∀ i, i < k + 1 → (W.setCell ⟨g, k, none⟩ v).cell? ⟨g, i, none⟩ = some (c i) := by
  refine ⟨hB.set g k v, fun i hi => ?_⟩
  rcases Nat.lt_or_ge i k with h | h
  · rw [cell_other W (by omega)]; exact hc i h
  · obtain rfl : i = k := by omega
    rw [hB.same hk, hv]
theorem ext_setCells {a : World} {g : Nat} (hg : a.heap.size ≤ g) : ∀ (vs : List Value) (o : Nat) (b : World), Ext a b → Ext a (b.setCells g o vs)
  | [], _, _, h => h
  | v :: vs, o, _, h => ext_setCells hg vs (o + 1) _ (h.setCell (p := ⟨g, o, none⟩) hg v)
/-! ### Append -/
/-- What the law on append asks of a slice type and its elements' type. -/
structure El (P : Program) (t e : TypeId) (size bytes : Nat) : Prop where
  und : P.underlying t = some (.slice e)
  inf : ∃ i z, P.info? e = some i ∧ i.zero = some z ∧ i.size = size ∧ i.bytes = bytes ∧ z.cells.size = size
  pos : 0 < size
theorem El.mk' {P : Program} {t e : TypeId} {size bytes : Nat} (h : P.underlying t = some (.slice e)) (hi : (P.info? e).map (fun i => (i.zero.map (fun z => z.cells.size), i.size, i.bytes)) = some (some size, size, bytes)) (hp : 0 < size) : El P t e size bytes := by
  refine ⟨h, ?_, hp⟩
  cases h1 : P.info? e with
  | none => rw [h1] at hi; cases hi
  | some i =>
    rw [h1] at hi
    simp only [Option.map_some, Option.some.injEq, Prod.mk.injEq] at hi
    obtain ⟨h2, h3, h4⟩ := hi
    cases h5 : i.zero with
    | none => rw [h5] at h2; cases h2
    | some z => rw [h5] at h2; simp only [Option.map_some, Option.some.injEq] at h2; exact ⟨i, z, rfl, h5, h3, h4, h2⟩
/-- append to a slice that is nil or the call's own. -/
theorem wpList_push {P : Program} {w : World} {ops : Array Oper} {rest : List Oper} {o : Oper} {a : Act} {Q : Exit → Act → World → Prop} {t e : TypeId} {size bytes : Nat} (E : El P t e size bytes) (hgd : o.guard = none) (s x : Operand)
    (ho : o.op = .call { callee := .builtin .append, args := #[s, x], argTypes := #[t, t] }) (base : Nat) (v : Value) (n : Nat) (xs : List Value) (hs : a.eval s = v) (hown : w.ownsRow base e size v n xs)
    (ad : Addr) (m c : Nat) (news : List Value) (hx : a.eval x = .slice (some ad) m c) (hl : news.length = m * size) (hnews : ∀ j u, news[j]? = some u → w.cell? (ad.add j) = some u) (h1 : ∀ u ∈ news, u.oneCell' = true)
    (h63 : n + m ≤ maxLen) (hbytes : (n + m) * bytes ≤ 140737488355328) (hbase : base ≤ w.heap.size)
    (h : ∀ v' w', w'.ownsRow base e size v' (n + m) (xs ++ news) → w.grownBy w' v.ownBlock → (v' = .slice none 0 0 ↔ v = .slice none 0 0 ∧ m = 0) → wpList P ops Q rest (a.put o.dst v') w') : wpList P ops Q (o :: rest) a w := by
  obtain ⟨i, z, h2, h3, h4, h5, h6⟩ := E.inf
  exact wpList_append_own w hgd s x t ho base e i z size bytes E.und h2 h3 h4 h5 h6 E.pos v n xs hs hown ad m c news hx hl hnews h1 h63 hbytes hbase h
theorem Ext.grown {a w w' : World} {row : Option Nat} (h : Ext a w) (hg : w.grownBy w' row) (hr : ∀ k, row = some k → a.heap.size ≤ k) : Ext a w' := .of_below (h.below.grown hg h.size hr)
theorem ownBlock_le {w : World} {base e size n : Nat} {v : Value} {xs : List Value} (h : w.ownsRow base e size v n xs) : ∀ k, v.ownBlock = some k → base ≤ k := by
  intro k hk
  rcases h.2 with ⟨rfl, _⟩ | ⟨g, cap, cur, rfl, hg, _⟩
  · cases hk
  · simp only [Value.ownBlock, Option.some.injEq] at hk; omega
theorem ownsRow_ext {w w' : World} {base e size n : Nat} {v : Value} {xs : List Value} (h : w.ownsRow base e size v n xs) (he : Ext w w') : w'.ownsRow base e size v n xs := by
  refine ⟨h.1, ?_⟩
  rcases h.2 with h2 | ⟨g, cap, cur, hv, hg, hh, r⟩
  · exact .inl h2
  · refine .inr ⟨g, cap, cur, hv, hg, ?_, r⟩
    have hl : g < w.heap.size := by
      rcases Nat.lt_or_ge g w.heap.size with h1 | h1
      · exact h1
      · rw [Array.getElem?_eq_none h1] at hh; cases hh
    rw [he.below.block g hl]; exact hh
/-- An owned row while another row is written. -/
theorem ownsRow_other {w w' : World} {base e size n : Nat} {v : Value} {xs : List Value} {row : Option Nat} (h : w.ownsRow base e size v n xs) (hg : w.grownBy w' row) (hne : ∀ k, v.ownBlock = some k → row ≠ some k) : w'.ownsRow base e size v n xs := by
  refine ⟨h.1, ?_⟩
  rcases h.2 with h2 | ⟨g, cap, cur, rfl, hg', hh, r⟩
  · exact .inl h2
  · refine .inr ⟨g, cap, cur, rfl, hg', ?_, r⟩
    have hl : g < w.heap.size := by
      rcases Nat.lt_or_ge g w.heap.size with h1 | h1
      · exact h1
      · rw [Array.getElem?_eq_none h1] at hh; cases hh
    rw [hg.block g hl (fun e => hne g rfl e.symm)]; exact hh
theorem ownsRow_lt {w : World} {base e size n : Nat} {v : Value} {xs : List Value} (h : w.ownsRow base e size v n xs) : ∀ k, v.ownBlock = some k → k < w.heap.size := by
  intro k hk
  rcases h.2 with ⟨rfl, _⟩ | ⟨g, cap, cur, rfl, hg', hh, r⟩
  · cases hk
  · simp only [Value.ownBlock, Option.some.injEq] at hk
    subst hk
    rcases Nat.lt_or_ge g w.heap.size with h1 | h1
    · exact h1
    · rw [Array.getElem?_eq_none h1] at hh; cases hh
/-- The shape of an owned slice, and its cells. -/
theorem ownsRow_shape {w : World} {base e n : Nat} {v : Value} {xs : List Value} (h : w.ownsRow base e 1 v n xs) : ∃ a cap, v = .slice a n cap ∧ n ≤ cap ∧ cap ≤ maxLen ∧ xs.length = n ∧ ∀ k, k < n → ∃ g, a = some ⟨g, 0, none⟩ ∧ base ≤ g ∧ g < w.heap.size ∧ w.cell? ⟨g, k, none⟩ = xs[k]? := by
  have hl := h.1
  rw [Nat.mul_one] at hl
  have hlt := ownsRow_lt h
  rcases h.2 with ⟨rfl, rfl⟩ | ⟨g, cap, cur, rfl, hg, hh, hc, hm, hs, ht⟩
  · exact ⟨none, 0, rfl, Nat.le_refl _, by unfold maxLen; omega, hl, fun k hk => absurd hk (Nat.not_lt_zero _)⟩
  · refine ⟨_, cap, rfl, hc, hm, hl, fun k hk => ⟨g, rfl, hg, hlt g rfl, ?_⟩⟩
    unfold World.cell?
    rw [hh, ← ht, Nat.mul_one, List.getElem?_take, if_pos hk]
    simp
/-! ### A call that writes into one block -/
/-- w' is w, grown, but for the block at which a begins. -/
structure Chg (a : Option Addr) (w w' : World) : Prop where
  os : w'.os = w.os
  tape : w'.tape = w.tape
  output : w'.output = w.output
  size : w.heap.size ≤ w'.heap.size
  block : ∀ k, k < w.heap.size → (∀ g o s, a = some ⟨g, o, s⟩ → k ≠ g) → w'.heap[k]? = w.heap[k]?
section
variable {a : Option Addr} {w w' w'' : World}
theorem Chg.refl (a : Option Addr) (w : World) : Chg a w w := ⟨rfl, rfl, rfl, Nat.le_refl _, fun _ _ _ => rfl⟩
theorem Chg.trans (h : Chg a w w') (k : Chg a w' w'') : Chg a w w'' :=
  ⟨k.os.trans h.os, k.tape.trans h.tape, k.output.trans h.output, Nat.le_trans h.size k.size, fun i hi hn => (k.block i (Nat.lt_of_lt_of_le hi h.size) hn).trans (h.block i hi hn)⟩
theorem Chg.of_ext (h : Ext w w') : Chg a w w' := ⟨h.below.os, h.below.tape, h.below.output, h.below.size, fun k hk _ => h.below.block k hk⟩
theorem Chg.set (w : World) (g o p : Nat) (v : Value) : Chg (some ⟨g, o, none⟩) w (w.setCell ⟨g, p, none⟩ v) :=
  ⟨rfl, rfl, rfl, by simp, fun k _ hn => by rw [heap_setCell_other w ⟨g, p, none⟩ k v (hn g o none rfl)]⟩
theorem Chg.lift (h : Chg a w w') (x : Growth) : Chg a w (lift w' x) := h.trans (.of_ext ((Ext.refl _).lift x))
theorem Chg.setc {g o : Nat} (h : Chg (some ⟨g, o, none⟩) w w') (p : Nat) (v : Value) : Chg (some ⟨g, o, none⟩) w (w'.setCell ⟨g, p, none⟩ v) := h.trans (.set w' g o p v)
/-- Seen from a world in which that block was not there yet, it is only growth. -/
theorem Ext.chg {w0 : World} (h : Ext w0 w) (k : Chg a w w') (hn : ∀ g o s, a = some ⟨g, o, s⟩ → w0.heap.size ≤ g) : Ext w0 w' :=
  .of_below ⟨k.os.trans h.below.os, k.tape.trans h.below.tape, k.output.trans h.below.output, Nat.le_trans h.size k.size, fun i hi => by
    rw [k.block i (Nat.lt_of_lt_of_le hi h.size) (fun g o s e => by have := hn g o s e; omega)]; exact h.below.block i hi⟩
theorem Chg.cell (k : Chg a w w') {b o : Nat} {v : Value} (hb : ∀ g o s, a = some ⟨g, o, s⟩ → b ≠ g) (hc : w.cell? ⟨b, o, none⟩ = some v) : w'.cell? ⟨b, o, none⟩ = some v := by
  rw [← hc]; exact World.cell?_of_block (w := w) (k.block b (block_lt hc) hb)
end
/-- A call that hands back v and only lays new blocks. -/
def Gives (P : Program) (f : FuncId) (args : Array Value) (w : World) (v : Value) : Prop :=
  Calls P f args w fun e w' => e = .returned v ∧ Ext w w'
theorem Gives.mk {P : Program} {f : FuncId} {args : Array Value} {w : World} {v : Value} (h : Calls P f args w fun e w' => e = .returned v ∧ Ext w w') : Gives P f args w v := h
theorem Gives.same {P : Program} {f : FuncId} {args : Array Value} {w : World} {v : Value} (h : Calls P f args w fun e w' => e = .returned v ∧ w' = w) : Gives P f args w v :=
  h.mono fun _ _ ⟨he, hw⟩ => ⟨he, hw ▸ Ext.refl _⟩
theorem Gives.drewN {P : Program} {f : FuncId} {args : Array Value} {w : World} {v : Value} (h : Calls P f args w fun e w' => e = .returned v ∧ ∃ n, w' = w.drewN n) : Gives P f args w v :=
  h.mono fun _ _ ⟨he, n, hw⟩ => ⟨he, hw ▸ (Ext.refl _).drewN n⟩
/-- The same at a value that is known to be equal. -/
theorem Gives.eq {P : Program} {f : FuncId} {args : Array Value} {w : World} {v v' : Value} (h : Gives P f args w v) (e : v = v') : Gives P f args w v' := e ▸ h

/-- At a call inside a quiet region over the class 'w, grown'. -/
theorem Gives.quiet {P : Program} {f : FuncId} {args : Array Value} {w : World} {x : Growth} {v : Value} (h : Gives P f args (lift w x) v) :
    Calls P f args (lift w x) fun e w'' => e = .returned v ∧ ∃ y, w'' = lift w y :=
  h.mono fun _ _ ⟨he, hw⟩ => ⟨he, ((Ext.refl w).lift x).trans hw⟩

/-- A call of F through a function value enters F's body. -/
def Enters (P : Program) (F : FuncId) : Prop := ∀ args w, (callFunc F args).run P w = .ok (.enter F args) w
theorem enters_of {P : Program} {F : FuncId} {fn : Func} {c : Code} (hf : P.funcs[F]? = some fn) (hn : (fn.name == "runtime.NumGoroutine") = false) (hb : fn.body = some c) : Enters P F := by
  intro args w
  simp [callFunc, hf, beq_eq_false_iff_ne.1 hn, hb]
/-- A region that draws its order and only reads, calls and lays blocks: one walk in the order of the text. -/
theorem region_quiet {P : Program} {id : Nat} {Q : Exit → Act → World → Prop} {a : Act} {w : World} {l : List Oper} (hm : P.follows .mixedOrders = true) (hB : Region.lexB .any l.toArray = true)
    (h : wpQuiet P l.toArray (fun w' => ∃ x, w' = lift w x) (fun a' => ∀ w', (∃ x, w' = lift w x) → Q .normal a' w') l a) : (Code.region id l.toArray true).wp P Q a w :=
  wp_region_quiet (C := fun w' => ∃ x, w' = lift w x) hm hB ⟨⟨#[], w.drawn + 1⟩, by simp [lift]⟩ (by simpa using h)

/-! ### Strings are compared by these two, closed to simp -/
def sLt (a b : ByteArray) : Bool := Op.bytesLess a.toList b.toList
def sEq (a b : ByteArray) : Bool := decide (a = b)
theorem bytesLess_lt : ∀ (x y : List UInt8), Op.bytesLess x y = true ↔ x < y
  | _, [] => by simp [Op.bytesLess]
  | [], _ :: _ => by simp [Op.bytesLess]
  | a :: x, b :: y => by
    rw [Op.bytesLess, List.cons_lt_cons_iff, ← bytesLess_lt x y]
    simp
theorem sLt_iff {a b : ByteArray} : sLt a b = true ↔ a.toList < b.toList := bytesLess_lt _ _
theorem sLt_not {a b : ByteArray} : sLt a b = false ↔ ¬ a.toList < b.toList := by rw [← sLt_iff]; simp
theorem toList_inj {a b : ByteArray} : a.toList = b.toList ↔ a = b := by
  simp only [ByteArray.toList_eq]
  constructor
  · intro h; cases a; cases b; simpa using Array.toList_inj.1 h
  · rintro rfl; rfl
theorem sEq_iff {a b : ByteArray} : sEq a b = true ↔ a = b := by simp [sEq]
theorem sEq_not {a b : ByteArray} : sEq a b = false ↔ a ≠ b := by simp [sEq]
theorem sEq_empty {s : ByteArray} (h : s.size = 0) : sEq s ⟨#[]⟩ = true := by
  rw [sEq_iff, ← toList_inj]; simp only [ByteArray.toList_eq]; rw [Array.toList_eq_nil_iff.2]; exact Array.size_eq_zero_iff.1 h
theorem sEq_nonempty {s : ByteArray} (h : 0 < s.size) : sEq s ⟨#[]⟩ = false := by
  rw [sEq_not]; rintro rfl; exact absurd h (by decide)
theorem sEq_toList (a b : ByteArray) : (a.toList == b.toList) = sEq a b := by
  rw [Bool.eq_iff_iff, sEq_iff, ← toList_inj]; simp
theorem sLt_irrefl (a : ByteArray) : sLt a a = false := by rw [sLt_not]; exact List.lt_irrefl _
theorem sLt_trans {a b c : ByteArray} (h : sLt a b = true) (k : sLt b c = true) : sLt a c = true := by
  rw [sLt_iff] at *; exact List.lt_trans h k
theorem sLt_asymm {a b : ByteArray} (h : sLt a b = true) : sLt b a = false := by
  rw [← Bool.not_eq_true]; intro k; have := sLt_trans h k; rw [sLt_irrefl] at this; cases this
theorem sLt_total {a b : ByteArray} (h : sLt a b = false) (k : sLt b a = false) : a = b := by
  rw [sLt_not] at *; rw [← toList_inj]; exact List.le_antisymm (List.not_lt.1 k) (List.not_lt.1 h)
theorem sLt_or_eq (a b : ByteArray) : (sLt a b || sEq a b) = !sLt b a := by
  cases h : sLt b a
  · cases k : sLt a b
    · rw [sLt_total k h]; simp [sEq]
    · rfl
  · rw [sLt_asymm h]; simp only [Bool.false_or, Bool.not_true, sEq_not]; rintro rfl; rw [sLt_irrefl] at h; cases h
@[go_sem] theorem less_sLt (a b : ByteArray) : Op.bytesLess a.toList b.toList = sLt a b := rfl
@[go_sem] theorem beq_sEq (a b : ByteArray) : (a.toList == b.toList) = sEq a b := sEq_toList a b
@[go_sem] theorem or_sLt (a b : ByteArray) : (sLt a b || sEq a b) = !sLt b a := sLt_or_eq a b
@[go_sem] theorem isEmpty_sEq (a : ByteArray) : a.toList.isEmpty = sEq a ⟨#[]⟩ := by
  rw [← sEq_toList]
  cases h : a.toList <;> simp [ByteArray.toList_eq]

/-- The k-th element; behind the end a value without meaning. -/
def nth {α : Type} [Inhabited α] (l : List α) (k : Nat) : α := l.getD k default
theorem nth_eq {α : Type} [Inhabited α] (l : List α) (k : Nat) (h : k < l.length) : nth l k = l[k] := by simp [nth, h]
theorem nth_mem {α : Type} [Inhabited α] {l : List α} {k : Nat} (h : k < l.length) : nth l k ∈ l := by rw [nth_eq l k h]; exact List.getElem_mem h
theorem mem_nth {α : Type} [Inhabited α] {l : List α} {x : α} (h : x ∈ l) : ∃ k, k < l.length ∧ nth l k = x := by
  obtain ⟨k, hk, rfl⟩ := List.getElem_of_mem h; exact ⟨k, hk, nth_eq l k hk⟩
theorem take_nth {α : Type} [Inhabited α] (l : List α) (k : Nat) (h : k < l.length) : l.take (k + 1) = l.take k ++ [nth l k] := by
  rw [List.take_succ_eq_append_getElem h, nth_eq l k h]

theorem upto_succ {p : Nat → Prop} {k : Nat} (h : ∀ j, j < k → p j) (h' : p k) : ∀ j, j < k + 1 → p j := fun j hj => by
  rcases Nat.lt_or_ge j k with h1 | h1
  · exact h j h1
  · obtain rfl : j = k := by omega
    exact h'
theorem upto_zero {p : Nat → Prop} : ∀ j, j < 0 → p j := fun j h => absurd h (Nat.not_lt_zero j)
/-- f says yes at all places below n. -/
def allB (n : Nat) (f : Nat → Bool) : Bool := (List.range n).all f
theorem allB_iff {n : Nat} {f : Nat → Bool} : allB n f = true ↔ ∀ k, k < n → f k = true := by simp [allB]
theorem allB_bad {n : Nat} {f : Nat → Bool} {k : Nat} (hk : k < n) (h : f k = false) : allB n f = false := by
  rw [← Bool.not_eq_true, allB_iff]; intro h'; rw [h' k hk] at h; cases h
theorem allB_end {n : Nat} {f : Nat → Bool} (h : ∀ k, k < n → f k = true) : allB n f = true := allB_iff.2 h
theorem nth_range {n k : Nat} (h : k < n) : nth (List.range n) k = k := by rw [nth_eq _ _ (by simpa using h)]; simp
/-- A slice of the call's own: it begins at a block's head, and that block is none of the elder ones. -/
def Own (w : World) (base : Nat) (T m : Nat) (a : Option Addr) (n : Nat) : Prop := n = 0 ∨ ∃ g N, a = some ⟨g, 0, none⟩ ∧ base ≤ g ∧ Blk w g T N ∧ n * m ≤ N
theorem Own.ext {w w' : World} {base T m n : Nat} {a : Option Addr} (h : Own w base T m a n) (he : Ext w w') : Own w' base T m a n := by
  rcases h with h | ⟨g, N, e, hg, hb, hn⟩
  · exact .inl h
  · exact .inr ⟨g, N, e, hg, hb.ext he, hn⟩
theorem Own.mono {w : World} {base base' T m n : Nat} {a : Option Addr} (h : Own w base T m a n) (hb : base' ≤ base) : Own w base' T m a n := by
  rcases h with h | ⟨g, N, e, hg, hB, hn⟩
  · exact .inl h
  · exact .inr ⟨g, N, e, Nat.le_trans hb hg, hB, hn⟩
theorem nth_take {α : Type} [Inhabited α] (l : List α) {k n : Nat} (h : k < n) : nth (l.take n) k = nth l k := by simp [nth, h]
/-- A slice begins at a; its elements, of n cells each, hold l. -/
def RowsAt {α : Type} [Inhabited α] (n : Nat) (cell : α → Nat → Value) (w : World) (a : Option Addr) (l : List α) : Prop :=
  ∀ k, k < l.length → ∃ b off, a = some ⟨b, off, none⟩ ∧ b < w.heap.size ∧ ∀ j, j < n → w.cell? ⟨b, off + k * n + j, none⟩ = some (cell (nth l k) j)
section
variable {α : Type} [Inhabited α] {n : Nat} {cell : α → Nat → Value} {w w' : World} {a : Option Addr} {l : List α}
theorem RowsAt.ext (h : RowsAt n cell w a l) (he : Ext w w') : RowsAt n cell w' a l := fun k hk => by
  obtain ⟨b, off, e, hb, hc⟩ := h k hk
  exact ⟨b, off, e, Nat.lt_of_lt_of_le hb he.size, fun j hj => he.cell (hc j hj)⟩
theorem RowsAt.base (h : RowsAt n cell w a l) {k : Nat} (hk : k < l.length) : ∃ b off, a = some ⟨b, off, none⟩ := by
  obtain ⟨b, off, e, _⟩ := h k hk; exact ⟨b, off, e⟩
theorem RowsAt.at {b off : Nat} (h : RowsAt n cell w (some ⟨b, off, none⟩) l) (k : Nat) (hk : k < l.length) : b < w.heap.size ∧ ∀ j, j < n → w.cell? ⟨b, off + k * n + j, none⟩ = some (cell (nth l k) j) := by
  obtain ⟨b', off', e, hb, hc⟩ := h k hk
  simp only [Option.some.injEq, Addr.mk.injEq, and_true] at e
  obtain ⟨rfl, rfl⟩ := e
  exact ⟨hb, hc⟩
theorem RowsAt.take (h : RowsAt n cell w a l) (k : Nat) : RowsAt n cell w a (l.take k) := fun j hj => by
  have hj' : j < l.length := by rw [List.length_take] at hj; omega
  have hjk : j < k := by rw [List.length_take] at hj; omega
  rw [nth_take l hjk]; exact h j hj'
theorem RowsAt.chg {d : Option Addr} (h : RowsAt n cell w a l) (hc : Chg d w w') (hne : ∀ g o s g' o' s', d = some ⟨g, o, s⟩ → a = some ⟨g', o', s'⟩ → g' ≠ g) : RowsAt n cell w' a l := fun k hk => by
  obtain ⟨b, off, e, hb, h'⟩ := h k hk
  exact ⟨b, off, e, Nat.lt_of_lt_of_le hb hc.size, fun j hj => hc.cell (fun g o s ed => hne g o s b off none ed e) (h' j hj)⟩
theorem RowsAt.nil : RowsAt n cell w a ([] : List α) := fun _ h => absurd h (Nat.not_lt_zero _)
end
abbrev IntAt (w : World) (a : Option Addr) (l : List Int) : Prop := RowsAt 1 (fun (x : Int) _ => .int .i64 x) w a l
theorem IntAt.of {w : World} {b off : Nat} {l : List Int} (hb : b < w.heap.size) (h : ∀ k, k < l.length → w.cell? ⟨b, off + k, none⟩ = some (.int .i64 (nth l k))) : IntAt w (some ⟨b, off, none⟩) l :=
  fun k hk => ⟨b, off, rfl, hb, fun j hj => by obtain rfl : j = 0 := by omega
                                               rw [Nat.mul_one]; exact h k hk⟩
theorem IntAt.at {w : World} {b off : Nat} {l : List Int} (h : IntAt w (some ⟨b, off, none⟩) l) (k : Nat) (hk : k < l.length) : b < w.heap.size ∧ w.cell? ⟨b, off + k, none⟩ = some (.int .i64 (nth l k)) :=
  let h' := RowsAt.at h k hk; ⟨h'.1, by have := h'.2 0 (by decide); rwa [Nat.mul_one] at this⟩

theorem ret_int {k : IntKind} {a b : Int} (h : a = b) : Ending.returned (.int k a) = .returned (.int k b) := by rw [h]
theorem ret_int2 {k m : IntKind} {a b c d : Int} (h : a = b) (h' : c = d) : Ending.returned (.tuple #[.int k a, .int m c]) = .returned (.tuple #[.int k b, .int m d]) := by rw [h, h']
theorem ret_bool {a b : Bool} (h : a = b) : Ending.returned (.bool a) = .returned (.bool b) := by rw [h]
end Go.Proofs.YtmkmmenkjbmppaaDoor

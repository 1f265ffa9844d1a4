/- A search through orders: what it computes; and the object and the two lists that it keeps in memory of its own. No conditions. -/
import Derived.Test.YtmkmmenkjbmppaaDoorLst
import Derived.Test.YtmkmmenkjbmppaaDoorLists
import Derived.Maps.AppendAt
namespace Go.Proofs.YtmkmmenkjbmppaaDoor
open Go.RowKit
/-- The state of a search: the best order, its worth, the steps left, whether it is done. -/
structure St where
  best : List Int
  most : Int
  left : Int
  found : Bool
section
variable (n : Nat) (ok : List Int → Bool)
def stepV (rec : List Int → St → St) (ord : List Int) (s : St) (k : Nat) : St :=
  if s.left < 0 ∨ s.found = true then s
  else if hasB ord k = true then s
  else if ok (ord ++ [(k : Int)]) = true then (if s.left = 0 then { s with left := -1 } else rec (ord ++ [(k : Int)]) { s with left := s.left - 1 })
  else s
def loopV (rec : List Int → St → St) (ord : List Int) (s : St) : Nat → St
  | 0 => s
  | k + 1 => stepV ok rec ord (loopV rec ord s k) k
def visitV (upd : List Int → St → St) : Nat → List Int → St → St
  | 0, ord, s => loopV ok (fun _ s => s) ord (upd ord s) n
  | d + 1, ord, s => loopV ok (visitV upd d) ord (upd ord s) n
end
section
variable {n : Nat} {ok : List Int → Bool} {rec : List Int → St → St} {ord : List Int} {s : St} {k : Nat}
theorem stepV_has (h : hasB ord k = true) : stepV ok rec ord s k = s := by
  unfold stepV
  by_cases h0 : s.left < 0 ∨ s.found = true
  · rw [if_pos h0]
  · rw [if_neg h0, if_pos h]
theorem stepV_no (h : ok (ord ++ [(k : Int)]) = false) : stepV ok rec ord s k = s := by
  unfold stepV
  by_cases h0 : s.left < 0 ∨ s.found = true
  · rw [if_pos h0]
  · rw [if_neg h0]
    by_cases h1 : hasB ord k = true
    · rw [if_pos h1]
    · rw [if_neg h1, if_neg (by rw [h]; decide)]
theorem stepV_full (h0 : s.found = false) (h1 : hasB ord k = false) (h2 : ok (ord ++ [(k : Int)]) = true) (h3 : s.left = 0) : stepV ok rec ord s k = { s with left := -1 } := by
  unfold stepV; rw [if_neg (by rw [h0, h3]; decide), if_neg (by rw [h1]; decide), if_pos h2, if_pos h3]
theorem stepV_go (h0 : s.found = false) (h1 : hasB ord k = false) (h2 : ok (ord ++ [(k : Int)]) = true) (h3 : 0 < s.left) : stepV ok rec ord s k = rec (ord ++ [(k : Int)]) { s with left := s.left - 1 } := by
  unfold stepV; rw [if_neg (by rw [h0]; simp; omega), if_neg (by rw [h1]; decide), if_pos h2, if_neg (by omega)]
theorem stepV_stop (h : s.left < 0 ∨ s.found = true) : stepV ok rec ord s k = s := by unfold stepV; rw [if_pos h]
theorem loopV_stop {j : Nat} (h : (loopV ok rec ord s k).left < 0 ∨ (loopV ok rec ord s k).found = true) : ∀ m, k ≤ m → loopV ok rec ord s m = loopV ok rec ord s k
  | 0, hm => by obtain rfl : k = 0 := by omega
                rfl
  | m + 1, hm => by
    rcases Nat.lt_or_ge k (m + 1) with h1 | h1
    · have e := loopV_stop (j := j) h m (by omega)
      show stepV ok rec ord (loopV ok rec ord s m) m = _
      rw [e]; exact stepV_stop h
    · obtain rfl : k = m + 1 := by omega
      rfl
end
/-- Two searches that keep step. -/
theorem loopV_sim {ok : List Int → Bool} {r1 r2 : List Int → St → St} {R : St → St → Prop} (hR : ∀ s t, R s t → s.left = t.left ∧ s.found = t.found) (hl : ∀ s t x, R s t → s.found = false → R { s with left := x } { t with left := x })
    (hr : ∀ o s t, R s t → s.found = false → R (r1 o s) (r2 o t)) {ord : List Int} {s t : St} (h : R s t) : ∀ k, R (loopV ok r1 ord s k) (loopV ok r2 ord t k)
  | 0 => h
  | k + 1 => by
    have ih : R (loopV ok r1 ord s k) (loopV ok r2 ord t k) := loopV_sim hR hl hr h k
    show R (stepV ok r1 ord _ k) (stepV ok r2 ord _ k)
    generalize loopV ok r1 ord s k = a at *
    generalize loopV ok r2 ord t k = b at *
    obtain ⟨e1, e2⟩ := hR _ _ ih
    unfold stepV
    by_cases h1 : a.left < 0 ∨ a.found = true
    · have h1' : b.left < 0 ∨ b.found = true := by rwa [← e1, ← e2]
      rw [if_pos h1, if_pos h1']; exact ih
    · have h1' : ¬ (b.left < 0 ∨ b.found = true) := by rwa [← e1, ← e2]
      have h2 : a.found = false := by rw [← Bool.not_eq_true]; intro h; exact h1 (.inr h)
      rw [if_neg h1, if_neg h1']
      by_cases h3 : hasB ord (k : Int) = true
      · rw [if_pos h3, if_pos h3]; exact ih
      · rw [if_neg h3, if_neg h3]
        by_cases h4 : ok (ord ++ [(k : Int)]) = true
        · rw [if_pos h4, if_pos h4]
          by_cases h5 : a.left = 0
          · have h5' : b.left = 0 := by omega
            rw [if_pos h5, if_pos h5']; exact hl _ _ _ ih h2
          · have h5' : ¬ b.left = 0 := by omega
            rw [if_neg h5, if_neg h5', ← e1]; exact hr _ _ _ (hl _ _ _ ih h2) h2
        · rw [if_neg h4, if_neg h4]; exact ih
theorem visitV_sim {n : Nat} {ok : List Int → Bool} {u1 u2 : List Int → St → St} {R : St → St → Prop} (hR : ∀ s t, R s t → s.left = t.left ∧ s.found = t.found) (hl : ∀ s t x, R s t → s.found = false → R { s with left := x } { t with left := x })
    (hu : ∀ o s t, R s t → s.found = false → R (u1 o s) (u2 o t)) : ∀ (d : Nat) {ord : List Int} {s t : St}, R (u1 ord s) (u2 ord t) → R (visitV n ok u1 d ord s) (visitV n ok u2 d ord t)
  | 0, _, _, _, h => loopV_sim (ok := ok) (r1 := fun _ s => s) (r2 := fun _ s => s) hR hl (fun _ _ _ h _ => h) h n
  | d + 1, _, _, _, h => loopV_sim (ok := ok) (r1 := visitV n ok u1 d) (r2 := visitV n ok u2 d) hR hl (fun o s t h h2 => visitV_sim hR hl hu d (ord := o) (hu o s t h h2)) h n
/-- What all states keep. -/
theorem loopV_inv {n : Nat} {ok : List Int → Bool} {rec : List Int → St → St} {P : St → Prop} (hl : ∀ s x, P s → P { s with left := x }) {ord : List Int} (hr : ∀ k s, k < n → P s → P (rec (ord ++ [(k : Int)]) s)) {s : St} (h : P s) : ∀ k, k ≤ n → P (loopV ok rec ord s k)
  | 0, _ => h
  | k + 1, hk => by
    have ih := loopV_inv (ok := ok) hl hr h k (by omega)
    show P (stepV ok rec ord _ k)
    generalize loopV ok rec ord s k = a at *
    unfold stepV
    split
    · exact ih
    · split
      · exact ih
      · split
        · split
          · exact hl _ _ ih
          · exact hr _ _ (by omega) (hl _ _ ih)
        · exact ih
theorem visitV_inv {n : Nat} {ok : List Int → Bool} {upd : List Int → St → St} {P : St → Prop} (hl : ∀ s x, P s → P { s with left := x }) (hu : ∀ o s, o.length ≤ n → P s → P (upd o s)) : ∀ (d : Nat) {ord : List Int} {s : St}, ord.length + d ≤ n → P s → P (visitV n ok upd d ord s)
  | 0, _, _, hd, h => loopV_inv (rec := fun _ s => s) hl (fun _ _ _ h => h) (hu _ _ (by omega) h) n (Nat.le_refl _)
  | d + 1, _, _, hd, h => loopV_inv hl (fun k s _ h => visitV_inv hl hu d (by rw [List.length_append]; simp only [List.length_cons, List.length_nil]; omega) h) (hu _ _ (by omega) h) n (Nat.le_refl _)
/-- How many numbers below n are not in an order. -/
def lacks (n : Nat) (ord : List Int) : Nat := (List.range n).countP (fun (k : Nat) => !hasB ord (k : Int))
theorem countP_less {p q : Nat → Bool} (hqp : ∀ x, q x = true → p x = true) {k : Nat} (hp : p k = true) (hq : q k = false) : ∀ L : List Nat, k ∈ L → L.countP q + 1 ≤ L.countP p
  | [], h => by cases h
  | x :: L, h => by
    have hm : L.countP q ≤ L.countP p := List.countP_mono_left fun x _ => hqp x
    rw [List.countP_cons, List.countP_cons]
    by_cases hx : x = k
    · subst hx; rw [hp, hq]; simp; omega
    · have hk : k ∈ L := by
        rcases List.mem_cons.1 h with h | h
        · exact absurd h.symm hx
        · exact h
      have := countP_less hqp hp hq L hk
      cases h1 : q x
      · split <;> simp_all; omega
      · rw [hqp x h1]; simp; omega
theorem lacks_nil (n : Nat) : lacks n [] ≤ n := by
  unfold lacks
  have := List.countP_le_length (p := fun (k : Nat) => !hasB [] (k : Int)) (l := List.range n)
  rwa [List.length_range] at this
theorem lacks_push {n : Nat} {ord : List Int} {k : Nat} (hk : k < n) (h : hasB ord k = false) : lacks n (ord ++ [(k : Int)]) + 1 ≤ lacks n ord := by
  refine countP_less (fun x hx => ?_) (k := k) (by rw [h]; rfl) ?_ _ (List.mem_range.2 hk)
  · cases h1 : hasB ord (x : Int)
    · rfl
    · rw [hasB_iff.2 (List.mem_append_left _ (hasB_iff.1 h1))] at hx; cases hx
  · rw [hasB_iff.2 (by simp)]; rfl
theorem lacks_zero {n : Nat} {ord : List Int} (h : lacks n ord ≤ 0) {k : Nat} (hk : k < n) : hasB ord k = true := by
  cases h1 : hasB ord (k : Int)
  · have := lacks_push hk h1; omega
  · rfl
abbrev cellI : Int → Nat → Value := fun (x : Int) (_ : Nat) => Value.int .i64 x
/-- Block g holds an object of n cells. -/
structure Objt (w : World) (g : Nat) (T : TypeId) (n : Nat) (f : Nat → Value) : Prop where
  blk : Blk w g T n
  cell : ∀ j, j < n → w.cell? ⟨g, j, none⟩ = some (f j)
section
variable {w w' : World} {g n : Nat} {T : TypeId} {f f' : Nat → Value}
theorem Objt.ext (h : Objt w g T n f) (he : Ext w w') : Objt w' g T n f := ⟨h.blk.ext he, fun j hj => he.cell (h.cell j hj)⟩
theorem Objt.grown {row : Option Nat} (h : Objt w g T n f) (hg : w.grownBy w' row) (hne : row ≠ some g) : Objt w' g T n f := ⟨h.blk.grown hg hne, fun j hj => cell_grown (h.cell j hj) hg hne⟩
theorem Objt.set (h : Objt w g T n f) (k : Nat) (u : Value) (hk : k < n) (h1 : f' k = u) (h2 : ∀ j, j < n → j ≠ k → f' j = f j) : Objt (w.setCell ⟨g, k, none⟩ u) g T n f' :=
  ⟨h.blk.set g k u, fun j hj => by
    by_cases e : j = k
    · subst e; rw [h1]; exact h.blk.same hk u
    · rw [cell_other w (by omega), h2 j hj e]; exact h.cell j hj⟩
theorem Objt.new (w : World) (cs : Array Value) (T : TypeId) (h : ∀ j, j < cs.size → cs[j]? = some (f j)) : Objt (w.alloc (.cells cs T)) w.heap.size T cs.size f :=
  ⟨Blk.new w cs T, fun j hj => by rw [cell_new]; exact h j hj⟩
end
section
variable {α : Type} {n T : Nat} {cell : α → Nat → Value} {w w' : World} {base : Nat} {v : Value} {l : List α}
theorem Lst.lt (h : Lst T n cell w base v l) : ∀ k, v.ownBlock = some k → k < w.heap.size := ownsRow_lt h
theorem Lst.ge (h : Lst T n cell w base v l) : ∀ k, v.ownBlock = some k → base ≤ k := ownBlock_le h
/-- The last element is cut off. -/
theorem Lst.pop {a : Option Addr} {m cap : Nat} {x : α} (h : Lst T n cell w base (.slice a (m + 1) cap) (l ++ [x])) (hm : m = l.length) : Lst T n cell w base (.slice a m cap) l := by
  subst hm
  have hl : (l ++ [x]).length = l.length + 1 := by simp
  refine ⟨flat_length l, ?_⟩
  rcases h.2 with ⟨h1, h2⟩ | ⟨g, cap', cur, hv, hg, hh, hc, hx, hs, ht⟩
  · rw [hl] at h2; cases h2
  · simp only [Value.slice.injEq] at hv
    obtain ⟨rfl, -, rfl⟩ := hv
    refine .inr ⟨g, cap, cur, rfl, hg, hh, by omega, hx, hs, ?_⟩
    rw [hl, flat_append] at ht
    have e : (flat n cell l).length = l.length * n := flat_length l
    have h9 := congrArg (List.take (l.length * n)) ht
    rw [List.take_take, ← e, List.take_append_of_le_length (Nat.le_refl _), List.take_length, e, Nat.min_eq_left (Nat.mul_le_mul_right n (by omega))] at h9
    exact h9
/-- append(dst, src...), and where the new list lies. -/
theorem wpList_pushAt [Inhabited α] {P : Program} {ops : Array Oper} {rest : List Oper} {o : Oper} {a : Act} {Q : Exit → Act → World → Prop} {t bytes : Nat} (E : El P t T n bytes) (hcell : ∀ x j, j < n → (cell x j).oneCell' = true) (hgd : o.guard = none) (s x : Operand)
    (ho : o.op = .call { callee := .builtin .append, args := #[s, x], argTypes := #[t, t] }) (base : Nat) (v : Value) (l : List α) (hs : a.eval s = v) (hown : Lst T n cell w base v l)
    (ad : Addr) (m c : Nat) (l2 : List α) (hm : l2.length = m) (hx : a.eval x = .slice (some ad) m c) (hR : RowsAt n cell w (some ad) l2)
    (h63 : l.length + m ≤ 9223372036854775807) (hbytes : (l.length + m) * bytes ≤ 140737488355328) (hbase : base ≤ w.heap.size)
    (h : ∀ v' w', Lst T n cell w' base v' (l ++ l2) → w.grownBy w' v.ownBlock → (v'.ownBlock = v.ownBlock ∨ v'.ownBlock = some w.heap.size) → wpList P ops Q rest (a.put o.dst v') w') : wpList P ops Q (o :: rest) a w := by
  subst hm
  obtain ⟨i, z, h2, h3, h4, h5, h6⟩ := E.inf
  refine wpList_append_own_at w hgd s x t ho base T i z n bytes E.und h2 h3 h4 h5 h6 E.pos v l.length (flat n cell l) hs hown ad l2.length c (flat n cell l2) hx (flat_length l2) (fun k u hu => ?_) (fun u hu => ?_) (by unfold maxLen; omega) hbytes hbase ?_
  · have hk : k < l2.length * n := by
      have := (List.getElem?_eq_some_iff.1 hu).1
      rwa [flat_length] at this
    obtain ⟨i, j, hi, hj, rfl⟩ := split_index hk
    rw [flat_get l2 i hi j hj] at hu
    obtain ⟨b, off, e, hb, hc⟩ := hR i hi
    simp only [Option.some.injEq] at e
    subst e
    rw [← hu, addr_add, ← Nat.add_assoc]; exact hc j hj
  · obtain ⟨y, j, _, hj, rfl⟩ := flat_mem hu; exact hcell y j hj
  · intro v' w' h1 h2 _ h4
    refine h v' w' ?_ h2 h4
    unfold Lst
    rw [List.length_append, flat_append]; exact h1
end
/-- What a search keeps: its object at g, the order v it is at, the best order at ab; all in memory that is younger than w0. -/
structure Srch (T TI : TypeId) (n : Nat) (w0 w : World) (g : Nat) (f : Nat → Value) (v : Value) (ord : List Int) (ab : Option Addr) (best : List Int) : Prop where
  ext : Ext w0 w
  low : w0.heap.size ≤ g
  obj : Objt w g T n f
  lst : Lst TI 1 cellI w (g + 1) v ord
  own : Own w (g + 1) TI 1 ab best.length
  row : IntAt w ab best
  far : ∀ b o s, ownA best.length ab = some ⟨b, o, s⟩ → v.ownBlock ≠ some b
section
variable {T TI : TypeId} {n : Nat} {w0 w w' : World} {g : Nat} {f f' : Nat → Value} {v v' : Value} {ord ord' : List Int} {ab ab' : Option Addr} {best best' : List Int}
theorem Srch.grow (h : Srch T TI n w0 w g f v ord ab best) (he : Ext w w') : Srch T TI n w0 w' g f v ord ab best :=
  ⟨h.ext.trans he, h.low, h.obj.ext he, h.lst.ext he, h.own.ext he, h.row.ext he, h.far⟩
theorem Own.setCell {w : World} {base T m n b : Nat} {a : Option Addr} (h : Own w base T m a n) (o : Nat) (u : Value) : Own (w.setCell ⟨b, o, none⟩ u) base T m a n := by
  rcases h with h | ⟨g, N, e, hg, hB, hn⟩
  · exact .inl h
  · exact .inr ⟨g, N, e, hg, hB.set b o u, hn⟩
theorem Srch.set (h : Srch T TI n w0 w g f v ord ab best) (k : Nat) (u : Value) (hk : k < n) (h1 : f' k = u) (h2 : ∀ j, j < n → j ≠ k → f' j = f j) : Srch T TI n w0 (w.setCell ⟨g, k, none⟩ u) g f' v ord ab best := by
  refine ⟨h.ext.setCell (p := ⟨g, k, none⟩) h.low u, h.low, h.obj.set k u hk h1 h2, h.lst.set (Nat.lt_succ_self g) u, h.own.setCell k u, fun i hi => ?_, h.far⟩
  obtain ⟨b, off, e, hb, hc⟩ := h.row i hi
  have hge := (h.own.block (show ownA best.length ab = some ⟨b, off, none⟩ by rw [ownA_pos (by omega), e])).1
  refine ⟨b, off, e, by simpa using hb, fun j hj => ?_⟩
  rw [cell_other w (by omega)]; exact hc j hj
/-- Another best order. -/
theorem Srch.newBest (h : Srch T TI n w0 w g f v ord ab best) (he : Ext w w') (ho : Own w' w.heap.size TI 1 ab' best'.length) (hr : IntAt w' ab' best') : Srch T TI n w0 w' g f v ord ab' best' := by
  have hg := h.obj.blk.lt
  refine ⟨h.ext.trans he, h.low, h.obj.ext he, h.lst.ext he, ho.mono (by omega), hr, fun b o s e e2 => ?_⟩
  have h1 := (ho.block e).1
  have h2 := h.lst.lt b e2
  omega
/-- The order has grown. -/
theorem Srch.newOrd (h : Srch T TI n w0 w g f v ord ab best) (hl : Lst TI 1 cellI w' (g + 1) v' ord') (hg : w.grownBy w' v.ownBlock) (hat : v'.ownBlock = v.ownBlock ∨ v'.ownBlock = some w.heap.size) : Srch T TI n w0 w' g f v' ord' ab best := by
  have hlow := h.low
  refine ⟨h.ext.grown hg (fun k hk => by have := h.lst.ge k hk; omega), h.low, h.obj.grown hg (h.lst.row_ne (Nat.lt_succ_self g)), hl, ?_, fun i hi => ?_, fun b o s e e2 => ?_⟩
  · rcases h.own with h1 | ⟨g', N, e, hg', hB, hN⟩
    · exact .inl h1
    · rcases Nat.eq_zero_or_pos best.length with h1 | h1
      · exact .inl h1
      · exact .inr ⟨g', N, e, hg', hB.grown hg (h.far g' 0 none (by rw [ownA_pos h1, e])), hN⟩
  · obtain ⟨b, off, e, hb, hc⟩ := h.row i hi
    have := h.far b off none (by rw [ownA_pos (by omega), e])
    exact ⟨b, off, e, Nat.lt_of_lt_of_le hb hg.size, fun j hj => cell_grown (hc j hj) hg this⟩
  · rcases hat with h1 | h1
    · rw [h1] at e2; exact h.far b o s e e2
    · rw [h1] at e2
      simp only [Option.some.injEq] at e2
      have := (h.own.block e).2
      omega
/-- The last of the order is cut off. -/
theorem Srch.pop {a : Option Addr} {m cap : Nat} {x : Int} (h : Srch T TI n w0 w g f (.slice a (m + 1) cap) (ord ++ [x]) ab best) (hm : m = ord.length) : Srch T TI n w0 w g f (.slice a m cap) ord ab best :=
  ⟨h.ext, h.low, h.obj, h.lst.pop hm, h.own, h.row, fun b o s e e2 => h.far b o s e (by
    cases a with
    | none => cases e2
    | some ad => exact e2)⟩
end
end Go.Proofs.YtmkmmenkjbmppaaDoor

/- Places in an ordered list, and a list with one element more. Plain Lean. -/
import Derived.Test.YtmkmmenkjbmppaaDoorValid
import Derived.Test.YtmkmmenkjbmppaaDoorAnd
import Derived.Deep.LoopGhost
import Derived.Test.YtmkmmenkjbmppaaDoorLst
namespace Go.Proofs.YtmkmmenkjbmppaaDoor
open Go.RowKit
section
variable {α : Type} [Inhabited α]
/-- How many elements at the head meet p. -/
def posOf (p : α → Bool) (l : List α) : Nat := (l.takeWhile p).length
omit [Inhabited α] in
theorem posOf_le (p : α → Bool) (l : List α) : posOf p l ≤ l.length := by
  unfold posOf; exact (List.takeWhile_sublist p).length_le
theorem posOf_eq {p : α → Bool} : ∀ {l : List α} {k : Nat}, k ≤ l.length → (∀ t, t < k → p (nth l t) = true) → (k < l.length → p (nth l k) = false) → k = posOf p l
  | [], k, h, _, _ => (show k = 0 from Nat.le_zero.1 h).trans rfl
  | a :: r, 0, _, _, h2 => by
    have := h2 (by simp)
    have h3 : p a = false := this
    unfold posOf; rw [List.takeWhile_cons, h3]; rfl
  | a :: r, k + 1, h, h1, h2 => by
    have h3 : p a = true := h1 0 (Nat.succ_pos _)
    have h4 := posOf_eq (p := p) (l := r) (k := k) (by simpa using h) (fun t ht => h1 (t + 1) (by omega)) (fun ht => h2 (by simpa using ht))
    unfold posOf at *; rw [List.takeWhile_cons, h3, if_pos rfl, List.length_cons, ← h4]
/-- Where a search by c comes to stand, and whether it found. -/
def lowB (c : α → Int) (l : List α) : Nat := posOf (fun y => decide (c y < 0)) l
def hitB (c : α → Int) (l : List α) : Bool := decide (lowB c l < l.length) && (c (nth l (lowB c l)) == 0)
theorem lowB_eq {c : α → Int} {l : List α} {k : Nat} (hk : k ≤ l.length) (h1 : ∀ t, t < k → c (nth l t) < 0) (h2 : ∀ t, k ≤ t → t < l.length → 0 ≤ c (nth l t)) : k = lowB c l :=
  posOf_eq hk (fun t ht => decide_eq_true (h1 t ht)) (fun hl => decide_eq_false (by have := h2 k (Nat.le_refl _) hl; omega))
theorem hitB_end {c : α → Int} {l : List α} {k : Nat} (hk : k = lowB c l) (h : ¬ k < l.length) : false = hitB c l := by
  unfold hitB; rw [← hk, decide_eq_false h]; rfl
theorem hitB_at {c : α → Int} {l : List α} {k : Nat} {b : Bool} (hk : k = lowB c l) (h : k < l.length) (hb : (c (nth l k) == 0) = b) : b = hitB c l := by
  unfold hitB; rw [← hk, decide_eq_true h, hb]; rfl
theorem ret_ib {k n : Nat} {b b' : Bool} (h : k = n) (hb : b = b') : Ending.returned (.tuple #[.int .i64 (k : Int), .bool b]) = .returned (.tuple #[.int .i64 (n : Int), .bool b']) := by subst h hb; rfl
/-- The list with x at its place, or why not. -/
def addC (ok : List α → Bool) (one : α → Bool) (c : α → Int) (mx : Nat) (l : List α) (x : α) : Int :=
  if ok l = true then (if one x = true then (if hitB c l = true then 4 else (if l.length = mx then 5 else 0)) else 2) else 1
def addV (ok : List α → Bool) (one : α → Bool) (c : α → Int) (mx : Nat) (l : List α) (x : α) : List α :=
  if addC ok one c mx l x = 0 then l.take (lowB c l) ++ x :: l.drop (lowB c l) else []
variable {ok : List α → Bool} {one : α → Bool} {c : α → Int} {mx : Nat} {l : List α} {x : α}
theorem addC_1 (h : ok l = false) : addC ok one c mx l x = 1 := by unfold addC; rw [h]; rfl
theorem addC_2 (h : ok l = true) (h2 : one x = false) : addC ok one c mx l x = 2 := by unfold addC; rw [h, h2]; rfl
theorem addC_4 (h : ok l = true) (h2 : one x = true) (h3 : hitB c l = true) : addC ok one c mx l x = 4 := by unfold addC; rw [h, h2, h3]; rfl
theorem addC_5 (h : ok l = true) (h2 : one x = true) (h3 : hitB c l = false) (h4 : l.length = mx) : addC ok one c mx l x = 5 := by unfold addC; rw [h, h2, h3, h4]; simp
theorem addC_0 (h : ok l = true) (h2 : one x = true) (h3 : hitB c l = false) (h4 : l.length ≠ mx) : addC ok one c mx l x = 0 := by unfold addC; rw [h, h2, h3, if_neg h4]; rfl
theorem addV_no (h : addC ok one c mx l x ≠ 0) : addV ok one c mx l x = [] := if_neg h
theorem addV_yes (h : addC ok one c mx l x = 0) : addV ok one c mx l x = l.take (lowB c l) ++ x :: l.drop (lowB c l) := if_pos h
theorem addV_len : (addV ok one c mx l x).length ≤ l.length + 1 := by
  unfold addV
  split
  · rw [List.length_append, List.length_cons, List.length_take, List.length_drop]; have := posOf_le (fun y => decide (c y < 0)) l; unfold lowB; omega
  · simp
theorem sorted_le {key : α → Int} {l : List α} (h : ∀ k, k + 1 < l.length → key (nth l k) < key (nth l (k + 1))) : ∀ i j, i ≤ j → j < l.length → key (nth l i) ≤ key (nth l j) := by
  intro i j hij
  induction j with
  | zero => intro _; obtain rfl : i = 0 := by omega
            exact Int.le_refl _
  | succ j ih =>
    intro hj
    rcases Nat.lt_or_ge j i with h1 | h1
    · obtain rfl : i = j + 1 := by omega
      exact Int.le_refl _
    · exact Int.le_trans (ih h1 (by omega)) (Int.le_of_lt (h j hj))
end
/-- How two numbers stand. -/
def cmpI (x y : Int) : Int := if x < y then -1 else if y < x then 1 else 0
theorem cmpI_lt {x y : Int} : cmpI x y < 0 ↔ x < y := by unfold cmpI; split <;> (try split) <;> omega
theorem cmpI_eq {x y : Int} : (cmpI x y == 0) = decide (x = y) := by
  rw [Bool.eq_iff_iff, beq_iff_eq, decide_eq_true_eq]; unfold cmpI; split <;> (try split) <;> omega
theorem cmpI_ge {x y : Int} : 0 ≤ cmpI x y ↔ y ≤ x := by unfold cmpI; split <;> (try split) <;> omega
theorem isNaN_any (x : Int) (w : World) : Calls Tryd.prog 70 #[.int .i64 x] w fun e w' => e = .returned (.bool false) ∧ w' = w := by
  go_enter Tryd.func70, Tryd.ntmps70
  go_wp2
  go_ret
  exact ⟨rfl, rfl⟩
theorem Compare_any (x y : Int) (w : World) : Calls Tryd.prog 61 #[.int .i64 x, .int .i64 y] w fun e w' => e = .returned (.int .i64 (cmpI x y)) ∧ w' = w := by
  have hv : Hid (cmpI x y = if x < y then -1 else if y < x then 1 else 0) := rfl
  by_cases h1 : x < y
  · go_enter Tryd.func61, Tryd.ntmps61
    go_wp2_with (go_at_call 70; refine (isNaN_any _ _).mono ?_; rintro e w' ⟨rfl, rfl⟩)
    go_ret
    exact ⟨ret_int (by rw [hv.out, if_pos h1]), rfl⟩
  by_cases h2 : y < x
  · go_enter Tryd.func61, Tryd.ntmps61
    go_wp2_with (go_at_call 70; refine (isNaN_any _ _).mono ?_; rintro e w' ⟨rfl, rfl⟩)
    go_ret
    exact ⟨ret_int (by rw [hv.out, if_neg (by omega), if_pos h2]), rfl⟩
  · go_enter Tryd.func61, Tryd.ntmps61
    go_wp2_with (go_at_call 70; refine (isNaN_any _ _).mono ?_; rintro e w' ⟨rfl, rfl⟩)
    go_ret
    exact ⟨ret_int (by rw [hv.out, if_neg (by omega), if_neg (by omega)]), rfl⟩
theorem drew_heap (w : World) : w.drew.heap = w.heap := rfl
theorem alloc_get (w : World) (cs : Array Value) (T : TypeId) {n : Nat} (hn : n = w.heap.size) : (w.alloc (.cells cs T)).heap[n]? = some (.cells cs T (0, 0)) := by
  subst hn
  show (w.heap.push _)[w.heap.size]? = _
  simp
theorem size_le (w : World) (o : Obj) : w.heap.size ≤ (w.alloc o).heap.size := by rw [size_new]; omega
/-- append(dst, src...) where src is nil. -/
theorem wpList_push_none {α : Type} {n : Nat} {cell : α → Nat → Value} {P : Program} {w : World} {ops : Array Oper} {rest : List Oper} {o : Oper} {a : Act} {Q : Exit → Act → World → Prop} {t T bytes : Nat} (E : El P t T n bytes) (hgd : o.guard = none) (s x : Operand)
    (ho : o.op = .call { callee := .builtin .append, args := #[s, x], argTypes := #[t, t] }) (base : Nat) (v : Value) (l : List α) (hs : a.eval s = v) (hown : Lst T n cell w base v l) (c : Nat) (hx : a.eval x = .slice none 0 c)
    (h : wpList P ops Q rest (a.put o.dst v) w) : wpList P ops Q (o :: rest) a w := by
  obtain ⟨i, z, hi, -⟩ := E.inf
  have hrun : (Builtin.append_ #[t, t] o.type #[v, .slice none 0 c]).run P w = .ok v w := by
    rcases hown.2 with ⟨rfl, h0⟩ | ⟨g, cap, cur, rfl, _, _, hnc, _⟩
    · simp [Builtin.append_, run_underlying E.und, sizeOf, typeInfo, hi, Builtin.lenOf, Builtin.firstCells]
    · simp [Builtin.append_, run_underlying E.und, sizeOf, typeInfo, hi, Builtin.lenOf, Builtin.firstCells, hnc, storeCells]
  refine wpList_plain hgd fun K hK => ?_
  unfold Oper.wp
  simp [execOp, ho, resolve, invoke, builtin, hs, hx, hrun, Result.andThen]
  exact hK _ _ h
theorem RowsAt.drop {α : Type} [Inhabited α] {n : Nat} {cell : α → Nat → Value} {w : World} {b off : Nat} {l : List α} (h : RowsAt n cell w (some ⟨b, off, none⟩) l) (k : Nat) : RowsAt n cell w (some ⟨b, off + k * n, none⟩) (l.drop k) := fun j hj => by
  rw [List.length_drop] at hj
  obtain ⟨h1, h2⟩ := RowsAt.at h (k + j) (by omega)
  refine ⟨b, off + k * n, rfl, h1, fun i hi => ?_⟩
  have h3 := h2 i hi
  rw [Nat.add_mul, ← Nat.add_assoc] at h3
  rw [h3]
  have : nth (l.drop k) j = nth l (k + j) := by unfold nth; simp
  rw [this]
end Go.Proofs.YtmkmmenkjbmppaaDoor

/- Strictly increasing lists: an element put to its place, and what sorting and compacting gives. Plain Lean. -/
import Derived.Test.YtdopffhekinbnaaBase
import Derived.Lib.SlicesCompact
namespace Go.Proofs.Ytdopffhekinbnaa
open Go.RowKit
section
variable {α : Type} {lt : α → α → Bool}
/-- A strict order, in which two that differ are told apart. -/
structure SLO (lt : α → α → Bool) : Prop where
  asy : ∀ a b, lt a b = true → lt b a = false
  tra : ∀ a b c, lt a b = true → lt b c = true → lt a c = true
  tot : ∀ a b, lt a b = false → lt b a = false → a = b
theorem SLO.irr (h : SLO lt) (a : α) : lt a a = false := by
  cases e : lt a a
  · rfl
  · have := h.asy a a e; rw [e] at this; cases this
theorem slo_int : SLO (fun a b : Int => decide (a < b)) :=
  ⟨fun a b h => by simp only [decide_eq_true_eq, decide_eq_false_iff_not] at *; omega, fun a b c h k => by simp only [decide_eq_true_eq] at *; omega, fun a b h k => by simp only [decide_eq_false_iff_not] at *; omega⟩
/-- Strictly increasing. -/
def Inc (lt : α → α → Bool) (l : List α) : Prop := l.Pairwise (fun a b => lt a b = true)
/-- Two such lists with the same members are the same. -/
theorem Inc.ext (h : SLO lt) : ∀ {a b : List α}, Inc lt a → Inc lt b → (∀ x, x ∈ a ↔ x ∈ b) → a = b
  | [], [], _, _, _ => rfl
  | [], y :: b, _, _, e => by have := (e y).2 (List.mem_cons_self ..); cases this
  | x :: a, [], _, _, e => by have := (e x).1 (List.mem_cons_self ..); cases this
  | x :: a, y :: b, ha, hb, e => by
    unfold Inc at ha hb
    rw [List.pairwise_cons] at ha hb
    have hxy : x = y := by
      rcases List.mem_cons.1 ((e x).1 (List.mem_cons_self ..)) with h1 | h1
      · exact h1
      rcases List.mem_cons.1 ((e y).2 (List.mem_cons_self ..)) with h2 | h2
      · exact h2.symm
      have h3 := ha.1 y h2
      have h4 := h.asy _ _ (hb.1 x h1)
      rw [h3] at h4; cases h4
    subst hxy
    rw [Inc.ext h ha.2 hb.2 (fun z => ?_)]
    have hz := e z
    simp only [List.mem_cons] at hz
    constructor
    · intro hm
      rcases hz.1 (.inr hm) with rfl | h1
      · have := ha.1 z hm; rw [h.irr] at this; cases this
      · exact h1
    · intro hm
      rcases hz.2 (.inr hm) with rfl | h1
      · have := hb.1 z hm; rw [h.irr] at this; cases this
      · exact h1
/-- An element put to its place, once. -/
def putL (lt : α → α → Bool) (x : α) : List α → List α
  | [] => [x]
  | y :: l => if lt y x = true then y :: putL lt x l else if lt x y = true then x :: y :: l else y :: l
theorem mem_putL (h : SLO lt) {x z : α} : ∀ {l : List α}, z ∈ putL lt x l ↔ z = x ∨ z ∈ l
  | [] => by simp [putL]
  | y :: l => by
    unfold putL
    split
    · rw [List.mem_cons, mem_putL h, List.mem_cons]
      constructor
      · rintro (h1 | h1 | h1)
        · exact .inr (.inl h1)
        · exact .inl h1
        · exact .inr (.inr h1)
      · rintro (h1 | h1 | h1)
        · exact .inr (.inl h1)
        · exact .inl h1
        · exact .inr (.inr h1)
    · rename_i h1
      split
      · simp
      · rename_i h2
        have : x = y := h.tot _ _ (by simpa using h2) (by simpa using h1)
        subst this
        simp
theorem inc_putL (h : SLO lt) {x : α} : ∀ {l : List α}, Inc lt l → Inc lt (putL lt x l)
  | [], _ => by simp [Inc, putL]
  | y :: l, hl => by
    unfold Inc at hl
    rw [List.pairwise_cons] at hl
    unfold putL
    split
    · rename_i h1
      show List.Pairwise _ (y :: putL lt x l)
      rw [List.pairwise_cons]
      refine ⟨fun z hz => ?_, inc_putL h hl.2⟩
      rcases (mem_putL h).1 hz with rfl | h2
      · exact h1
      · exact hl.1 z h2
    · split
      · rename_i h2
        show List.Pairwise _ (x :: y :: l)
        rw [List.pairwise_cons, List.pairwise_cons]
        refine ⟨fun z hz => ?_, hl.1, hl.2⟩
        rcases List.mem_cons.1 hz with rfl | h3
        · exact h2
        · exact h.tra _ _ _ h2 (hl.1 z h3)
      · show List.Pairwise _ (y :: l)
        rw [List.pairwise_cons]; exact hl
theorem length_putL (x : α) : ∀ l : List α, (putL lt x l).length ≤ l.length + 1
  | [] => by simp [putL]
  | y :: l => by
    have := length_putL x l
    unfold putL
    split
    · simp; omega
    · split <;> simp
/-- All elements put, one after the other. -/
def putAll (lt : α → α → Bool) (o : List α) : List α → List α
  | [] => o
  | x :: l => putAll lt (putL lt x o) l
theorem mem_putAll (h : SLO lt) {z : α} : ∀ {l o : List α}, z ∈ putAll lt o l ↔ z ∈ o ∨ z ∈ l
  | [], o => by simp [putAll]
  | x :: l, o => by
    unfold putAll
    rw [mem_putAll h, mem_putL h, List.mem_cons]
    constructor
    · rintro ((h1 | h1) | h1)
      · exact .inr (.inl h1)
      · exact .inl h1
      · exact .inr (.inr h1)
    · rintro (h1 | h1 | h1)
      · exact .inl (.inr h1)
      · exact .inl (.inl h1)
      · exact .inr h1
theorem inc_putAll (h : SLO lt) : ∀ {l o : List α}, Inc lt o → Inc lt (putAll lt o l)
  | [], _, ho => ho
  | x :: l, o, ho => inc_putAll (l := l) (o := putL lt x o) h (inc_putL h ho)
theorem length_putAll : ∀ (l o : List α), (putAll lt o l).length ≤ o.length + l.length
  | [], o => by simp [putAll]
  | x :: l, o => by
    have := length_putAll l (putL lt x o)
    have := length_putL (lt := lt) x o
    unfold putAll; simp; omega
theorem putAll_snoc (x : α) : ∀ (l o : List α), putAll lt o (l ++ [x]) = putL lt x (putAll lt o l)
  | [], _ => rfl
  | y :: l, o => by show putAll lt (putL lt y o) (l ++ [x]) = putL lt x (putAll lt (putL lt y o) l); rw [putAll_snoc x l]
theorem putAll_append : ∀ (l m o : List α), putAll lt o (l ++ m) = putAll lt (putAll lt o l) m
  | [], _, _ => rfl
  | y :: l, m, o => by show putAll lt (putL lt y o) (l ++ m) = _; rw [putAll_append l m]; rfl
/-- Neighbours that are the same, once. -/
theorem compact_mem [Inhabited α] [DecidableEq α] (l : List α) (z : α) : z ∈ Lib.compact l ↔ z ∈ l := by
  unfold Lib.compact
  have key : ∀ m, m ≤ l.length → (z ∈ Lib.compactUpTo l.toArray m ↔ z ∈ l.take m) := by
    intro m hm
    induction m with
    | zero => simp [Lib.compactUpTo]
    | succ m ih =>
      have hd : l.toArray[m]! = l[m] := by simp [getElem!_pos, show m < l.length by omega]
      rw [Lib.compactUpTo_succ, List.mem_append, ih (by omega), List.take_succ_eq_append_getElem (by omega), List.mem_append]
      split
      · rw [hd]
      · rename_i hk
        simp only [List.not_mem_nil, or_false, List.mem_cons]
        constructor
        · exact .inl
        · rintro (h1 | h1)
          · exact h1
          · have h0 : m ≠ 0 := fun e => hk (Lib.keeps_lt_one _ m (by omega))
            have h2 : l.toArray[m]! = l.toArray[m - 1]! := Classical.byContradiction fun h => hk (Lib.keeps_pos h)
            rw [h1, ← hd, h2, getElem!_pos l.toArray (m - 1) (show m - 1 < l.toArray.size by simp; omega)]
            simp only [List.getElem_toArray]
            exact List.mem_iff_getElem.2 ⟨m - 1, by simp; omega, by simp⟩
  rw [key _ (Nat.le_refl _), List.take_length]
theorem compact_inc [Inhabited α] [DecidableEq α] (h : SLO lt) {l : List α} (hl : l.Pairwise (fun a b => lt b a = false)) : Inc lt (Lib.compact l) := by
  unfold Lib.compact
  have hmono : ∀ i j, i ≤ j → (hj : j < l.length) → lt l.toArray[j]! l.toArray[i]! = false := by
    intro i j hij hj
    rw [getElem!_pos _ i (by simp; omega), getElem!_pos _ j (by simp; omega)]
    simp only [List.getElem_toArray]
    rcases Nat.lt_or_ge i j with h1 | h1
    · exact List.pairwise_iff_getElem.1 hl i j (by omega) hj h1
    · obtain rfl : i = j := by omega
      exact h.irr _
  have key : ∀ m, m ≤ l.length → Inc lt (Lib.compactUpTo l.toArray m) ∧ (∀ z ∈ Lib.compactUpTo l.toArray m, ∃ i, i < m ∧ z = l.toArray[i]!) := by
    intro m hm
    induction m with
    | zero => exact ⟨List.Pairwise.nil, fun z hz => by simp [Lib.compactUpTo] at hz⟩
    | succ m ih =>
      obtain ⟨h1, h2⟩ := ih (by omega)
      rw [Lib.compactUpTo_succ]
      split
      · rename_i hk
        refine ⟨?_, fun z hz => ?_⟩
        · unfold Inc
          rw [List.pairwise_append]
          refine ⟨h1, List.pairwise_singleton .., fun z hz y hy => ?_⟩
          obtain rfl : y = l.toArray[m]! := by simpa using hy
          obtain ⟨i, hi, rfl⟩ := h2 z hz
          have hne : l.toArray[m]! ≠ l.toArray[m - 1]! := fun e => by
            rw [Lib.keeps_neg (by omega) e] at hk; cases hk
          have h3 : lt l.toArray[m - 1]! l.toArray[m]! = true := by
            cases e : lt l.toArray[m - 1]! l.toArray[m]!
            · exact absurd (h.tot _ _ (hmono (m - 1) m (by omega) (by omega)) e) hne
            · rfl
          cases e : lt l.toArray[i]! l.toArray[m]!
          · exfalso
            -- m is not above i, and not below: the same; then so is m - 1
            have h4 : l.toArray[i]! = l.toArray[m]! := h.tot _ _ e (hmono i m (by omega) (by omega))
            have h5 := hmono i (m - 1) (by omega) (by omega)
            rw [h4, h3] at h5; cases h5
          · rfl
        · rcases List.mem_append.1 hz with h3 | h3
          · obtain ⟨i, hi, e⟩ := h2 z h3
            exact ⟨i, by omega, e⟩
          · exact ⟨m, by omega, by simpa using h3⟩
      · rw [List.append_nil]
        exact ⟨h1, fun z hz => by obtain ⟨i, hi, e⟩ := h2 z hz; exact ⟨i, by omega, e⟩⟩
  exact (key _ (Nat.le_refl _)).1
/-- Sorted, then compacted: what putting one after the other gives. -/
theorem sort_compact [Inhabited α] [DecidableEq α] (h : SLO lt) {l s : List α} (hp : s.Perm l) (hs : s.Pairwise (fun a b => lt b a = false)) : Lib.compact s = putAll lt [] l :=
  Inc.ext h (compact_inc h hs) (inc_putAll h List.Pairwise.nil) fun z => by
    rw [compact_mem, mem_putAll h]; simp [hp.mem_iff]
end
end Go.Proofs.Ytdopffhekinbnaa

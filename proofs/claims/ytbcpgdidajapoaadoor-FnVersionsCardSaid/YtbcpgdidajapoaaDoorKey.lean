/- Lists in the order of names: an element set, found, taken out. Plain Lean. -/
import Derived.Test.YtbcpgdidajapoaaDoorSrt
import Derived.Test.YtbcpgdidajapoaaDoorAdd
namespace Go.Proofs.YtbcpgdidajapoaaDoor
open Go.RowKit
section
variable {α κ : Type} [Inhabited α] [DecidableEq κ] {nm : α → κ} {lt : κ → κ → Bool}
/-- An element set in a list in the order of names: in the place of the one of its name, or ahead of the first greater one. -/
def setK (nm : α → κ) (lt : κ → κ → Bool) (e : α) : List α → List α
  | [] => [e]
  | y :: l => if lt (nm y) (nm e) = true then y :: setK nm lt e l else e :: (y :: l).filter (fun z => !decide (nm z = nm e))
def IncK (nm : α → κ) (lt : κ → κ → Bool) (l : List α) : Prop := Inc lt (l.map nm)
omit [Inhabited α] in
theorem filter_ne {y : α} {l : List α} {n : κ} (hy : IncK nm lt (y :: l)) (hn : lt (nm y) n = false) : l.filter (fun z => !decide (nm z = n)) = l := by
  rw [List.filter_eq_self]
  intro z hz
  unfold IncK Inc at hy
  rw [List.map_cons, List.pairwise_cons] at hy
  have h1 := hy.1 (nm z) (List.mem_map.2 ⟨z, hz, rfl⟩)
  simp only [Bool.not_eq_true', decide_eq_false_iff_not]
  intro e
  rw [e, hn] at h1; cases h1
omit [Inhabited α] in
theorem setK_names (h : SLO lt) {e : α} : ∀ {l : List α}, IncK nm lt l → (setK nm lt e l).map nm = putL lt (nm e) (l.map nm)
  | [], _ => rfl
  | y :: l, hl => by
    have hl2 : IncK nm lt l := by unfold IncK Inc at *; rw [List.map_cons, List.pairwise_cons] at hl; exact hl.2
    unfold setK
    rw [List.map_cons]
    unfold putL
    split
    · rw [List.map_cons, setK_names h hl2]
    · rename_i h1
      rw [List.filter_cons, filter_ne hl (by simpa using h1)]
      by_cases h2 : nm y = nm e
      · rw [if_neg (by simp [h2]), if_neg (by rw [h2, h.irr]; decide), h2]; rfl
      · rw [if_pos (by simp [h2]), if_pos]
        · rfl
        · cases h3 : lt (nm e) (nm y)
          · exact absurd (h.tot _ _ (by simpa using h1) h3) h2
          · rfl
omit [Inhabited α] in
theorem setK_inc (h : SLO lt) {e : α} {l : List α} (hl : IncK nm lt l) : IncK nm lt (setK nm lt e l) := by
  unfold IncK; rw [setK_names h hl]; exact inc_putL h hl
omit [Inhabited α] in
theorem setK_mem {e z : α} : ∀ {l : List α}, z ∈ setK nm lt e l → z = e ∨ z ∈ l
  | [], hz => .inl (by simpa [setK] using hz)
  | y :: l, hz => by
    unfold setK at hz
    split at hz
    · rcases List.mem_cons.1 hz with rfl | h1
      · exact .inr (by simp)
      · rcases setK_mem h1 with h2 | h2
        · exact .inl h2
        · exact .inr (List.mem_cons_of_mem _ h2)
    · rcases List.mem_cons.1 hz with rfl | h1
      · exact .inl rfl
      · exact .inr (List.mem_filter.1 h1).1
/-- Where an element of this name stands, or -1. -/
def idxK (nm : α → κ) (n : κ) : List α → Int
  | [] => -1
  | y :: l => if nm y = n then 0 else if idxK nm n l < 0 then -1 else idxK nm n l + 1
omit [Inhabited α] in
theorem idxK_bd (n : κ) : ∀ l : List α, -1 ≤ idxK nm n l ∧ idxK nm n l < l.length
  | [] => by simp [idxK]
  | y :: l => by
    have := idxK_bd n l
    unfold idxK
    rw [List.length_cons]
    split
    · omega
    · split <;> omega
/-- Whether the place of a search is that of the name. -/
def hitK (nm : α → κ) (lt : κ → κ → Bool) (n : κ) (l : List α) : Bool := decide (posOf (fun y => lt (nm y) n) l < l.length) && decide (nm (nth l (posOf (fun y => lt (nm y) n) l)) = n)
omit [Inhabited α] [DecidableEq κ] in
theorem posOf_cons (p : α → Bool) (y : α) (l : List α) : posOf p (y :: l) = if p y = true then posOf p l + 1 else 0 := by
  unfold posOf; rw [List.takeWhile_cons]; split <;> simp
theorem hitK_cons (n : κ) (y : α) (l : List α) : hitK nm lt n (y :: l) = if lt (nm y) n = true then hitK nm lt n l else decide (nm y = n) := by
  unfold hitK
  rw [posOf_cons]
  split
  · rw [nth_cons_succ, List.length_cons]
    congr 1
    rw [decide_eq_decide]; omega
  · rw [nth_cons_zero]; simp
theorem idxK_hit (h : SLO lt) {n : κ} : ∀ {l : List α}, IncK nm lt l → idxK nm n l = if hitK nm lt n l = true then ((posOf (fun y => lt (nm y) n) l : Nat) : Int) else -1
  | [], _ => by simp [idxK, hitK]
  | y :: l, hl => by
    have hl2 : IncK nm lt l := by unfold IncK Inc at *; rw [List.map_cons, List.pairwise_cons] at hl; exact hl.2
    unfold idxK
    rw [hitK_cons, posOf_cons, idxK_hit h hl2]
    by_cases h1 : lt (nm y) n = true
    · rw [if_pos h1, if_pos h1, if_neg (by rintro rfl; rw [h.irr] at h1; cases h1)]
      split
      · rw [if_neg (by omega)]; omega
      · rw [if_pos (by omega)]
    · rw [if_neg h1, if_neg h1]
      by_cases h2 : nm y = n
      · rw [if_pos h2, if_pos (by simpa using h2)]; rfl
      · have : hitK nm lt n l = false := by
          rw [← Bool.not_eq_true]
          intro hh
          unfold hitK at hh
          simp only [Bool.and_eq_true, decide_eq_true_eq] at hh
          unfold IncK Inc at hl
          rw [List.map_cons, List.pairwise_cons] at hl
          have h3 := hl.1 _ (List.mem_map.2 ⟨_, show nth l (posOf (fun y => lt (nm y) n) l) ∈ l by rw [nth_eq _ _ hh.1]; exact List.getElem_mem hh.1, rfl⟩)
          rw [hh.2] at h3
          exact h1 h3
        simp [this, h2]
/-- What the setting comes to, at the place of the search. -/
theorem setK_at (h : SLO lt) {e : α} : ∀ {l : List α}, IncK nm lt l → setK nm lt e l = if hitK nm lt (nm e) l = true then l.set (posOf (fun y => lt (nm y) (nm e)) l) e else l.take (posOf (fun y => lt (nm y) (nm e)) l) ++ e :: l.drop (posOf (fun y => lt (nm y) (nm e)) l)
  | [], _ => by simp [setK, hitK, posOf]
  | y :: l, hl => by
    have hl2 : IncK nm lt l := by unfold IncK Inc at *; rw [List.map_cons, List.pairwise_cons] at hl; exact hl.2
    unfold setK
    rw [hitK_cons, posOf_cons]
    by_cases h1 : lt (nm y) (nm e) = true
    · rw [if_pos h1, if_pos h1, if_pos h1, setK_at h hl2]
      split
      · rfl
      · rfl
    · rw [if_neg h1, if_neg h1, if_neg h1, List.filter_cons, filter_ne hl (by simpa using h1)]
      by_cases h2 : nm y = nm e
      · rw [if_neg (by simp [h2]), if_pos (by simpa using h2)]; rfl
      · rw [if_pos (by simp [h2]), if_neg (by simpa using h2)]; rfl
theorem setK_len (h : SLO lt) {e : α} {l : List α} (hl : IncK nm lt l) : (setK nm lt e l).length = if hitK nm lt (nm e) l = true then l.length else l.length + 1 := by
  rw [setK_at h hl]
  split
  · simp
  · rw [List.length_append, List.length_cons, List.length_take, List.length_drop]
    have : posOf (fun y => lt (nm y) (nm e)) l ≤ l.length := by unfold posOf; exact (List.takeWhile_sublist _).length_le
    omega
omit [Inhabited α] [DecidableEq κ] in
theorem incK_del {l : List α} (hl : IncK nm lt l) (k : Nat) : IncK nm lt (l.take k ++ l.drop (k + 1)) := by
  unfold IncK at *
  refine List.Pairwise.sublist (List.Sublist.map _ ?_) hl
  rw [← List.eraseIdx_eq_take_drop_succ]
  exact List.eraseIdx_sublist ..
omit [Inhabited α] [DecidableEq κ] in
theorem len_del (l : List α) (k : Nat) (h : k < l.length) : (l.take k ++ l.drop (k + 1)).length + 1 = l.length := by
  rw [List.length_append, List.length_take, List.length_drop]; omega
end
end Go.Proofs.YtbcpgdidajapoaaDoor

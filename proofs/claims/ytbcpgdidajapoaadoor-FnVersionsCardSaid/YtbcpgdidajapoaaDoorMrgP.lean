/- Three states: the names in them, what each has at a name, conflicts, and what comes of a merge. Plain Lean. -/
import Derived.Test.YtbcpgdidajapoaaDoorState
import Derived.Test.YtbcpgdidajapoaaDoorKey
import Derived.Test.YtbcpgdidajapoaaDoorLst
namespace Go.Proofs.YtbcpgdidajapoaaDoor
open Go.RowKit
theorem sloS : SLO sLt := ⟨fun _ _ h => sLt_asymm h, fun _ _ _ h k => sLt_trans h k, fun _ _ h k => sLt_total h k⟩
/-- What a state has at a name. -/
def thg : List Setting → ByteArray → Option Int
  | [], _ => none
  | y :: l, n => if y.name = n then some y.value else thg l n
theorem thg_at {n : ByteArray} : ∀ {l : List Setting} {k : Nat}, (∀ j, j < k → (nth l j).name ≠ n) → k < l.length → (nth l k).name = n → thg l n = some (nth l k).value
  | [], _, _, h, _ => absurd h (Nat.not_lt_zero _)
  | y :: l, 0, _, _, h => if_pos h
  | y :: l, k + 1, h0, h1, h2 => by
    have h3 : y.name ≠ n := h0 0 (Nat.succ_pos _)
    show (if y.name = n then some y.value else thg l n) = _
    rw [if_neg h3, thg_at (k := k) (fun j hj => h0 (j + 1) (by omega)) (by simpa using h1) h2]; rfl
theorem thg_none {n : ByteArray} : ∀ {l : List Setting}, (∀ j, j < l.length → (nth l j).name ≠ n) → thg l n = none
  | [], _ => rfl
  | y :: l, h => by
    show (if y.name = n then some y.value else thg l n) = _
    rw [if_neg (show y.name ≠ n from h 0 (by simp)), thg_none fun j hj => h (j + 1) (by simpa using hj)]
theorem thg_some {n : ByteArray} {v : Int} : ∀ {l : List Setting}, thg l n = some v → ∃ k, k < l.length ∧ nth l k = ⟨n, v⟩
  | [], h => by cases h
  | y :: l, h => by
    change (if y.name = n then some y.value else thg l n) = some v at h
    by_cases h1 : y.name = n
    · rw [if_pos h1] at h
      simp only [Option.some.injEq] at h
      exact ⟨0, by simp, by rw [nth_cons_zero]; cases y; simp only at h1 h; rw [h1, h]⟩
    · rw [if_neg h1] at h
      obtain ⟨k, hk, e⟩ := thg_some h
      exact ⟨k + 1, by simpa using hk, by rw [nth_cons_succ]; exact e⟩
theorem thg_idx {n : ByteArray} : ∀ {l : List Setting}, (idxK Setting.name n l < 0 ∧ thg l n = none) ∨ ∃ k v, idxK Setting.name n l = ((k : Nat) : Int) ∧ k < l.length ∧ nth l k = ⟨n, v⟩ ∧ thg l n = some v
  | [] => .inl ⟨by simp [idxK], rfl⟩
  | y :: l => by
    by_cases h1 : y.name = n
    · exact .inr ⟨0, y.value, if_pos h1, by simp, by rw [nth_cons_zero]; cases y; simp only at h1; rw [h1], if_pos h1⟩
    · have e : idxK Setting.name n (y :: l) = if idxK Setting.name n l < 0 then -1 else idxK Setting.name n l + 1 := if_neg h1
      have e2 : thg (y :: l) n = thg l n := if_neg h1
      rcases thg_idx (n := n) (l := l) with ⟨h2, h3⟩ | ⟨k, v, h2, h3, h4, h5⟩
      · exact .inl ⟨by rw [e, if_pos h2]; decide, by rw [e2, h3]⟩
      · exact .inr ⟨k + 1, v, by rw [e, h2, if_neg (by omega)]; push_cast; rfl, by simpa using h3, by rw [nth_cons_succ]; exact h4, by rw [e2, h5]⟩
/-- As the program has it: the value, and whether there is one. -/
theorem thg_eq (x y : Option Int) : ((x.getD 0 == y.getD 0) && (x.isSome == y.isSome)) = decide (x = y) := by
  cases x <;> cases y <;> simp <;> rfl
/-- As the reference has it: a setting, or the zero one. -/
def getS (n : ByteArray) : Option Int → Setting
  | some v => ⟨n, v⟩
  | none => ⟨⟨#[]⟩, 0⟩
theorem getS_eq {n : ByteArray} (hn : n ≠ ⟨#[]⟩) (x y : Option Int) : (sEq (getS n x).name (getS n y).name && ((getS n x).value == (getS n y).value)) = decide (x = y) := by
  cases x <;> cases y
  · rfl
  · simp only [getS]; rw [sEq_not.2 (Ne.symm hn)]; rfl
  · simp only [getS]; rw [sEq_not.2 hn]; rfl
  · simp only [getS]; rw [sEq_iff.2 rfl]; simp; rfl
/-- A conflict. -/
def conf (x y z : Option Int) : Bool := !(decide (y = z) || (decide (y = x) || decide (z = x)))
theorem conf_spec (x y z : Option Int) : conf x y z = (!decide (x = y) && (!decide (x = z) && !decide (y = z))) := by
  unfold conf
  by_cases h1 : y = z <;> by_cases h2 : y = x <;> by_cases h3 : z = x <;> (try subst h1) <;> (try subst h2) <;> (try subst h3) <;> simp_all [eq_comm]
/-- All names of three states, in order. -/
def names3 (a b c : List Setting) : List ByteArray := putAll sLt [] ((a ++ b ++ c).map Setting.name)
def confAt (a b c : List Setting) (n : ByteArray) : Bool := conf (thg a n) (thg b n) (thg c n)
def confl (a b c : List Setting) : List ByteArray := (names3 a b c).filter (confAt a b c)
def pickM (x y z : Option Int) : Option Int := if y = x then z else y
def setAt (n : ByteArray) (o : Option Int) : List Setting := match o with | some v => [⟨n, v⟩] | none => []
def merAt (a b c : List Setting) (n : ByteArray) : Option Int := pickM (thg a n) (thg b n) (thg c n)
/-- The merge of the first names. -/
def mergeTo (a b c : List Setting) (N : List ByteArray) : Nat → List Setting
  | 0 => []
  | k + 1 => mergeTo a b c N k ++ setAt (nth N k) (merAt a b c (nth N k))
def mergeL (a b c : List Setting) : List Setting := mergeTo a b c (names3 a b c) (names3 a b c).length
theorem setAt_len (n : ByteArray) (o : Option Int) : (setAt n o).length ≤ 1 := by cases o <;> simp [setAt]
theorem mergeTo_len (a b c : List Setting) (N : List ByteArray) : ∀ k, (mergeTo a b c N k).length ≤ k
  | 0 => Nat.le_refl _
  | k + 1 => by
    have := mergeTo_len a b c N k
    have := setAt_len (nth N k) (merAt a b c (nth N k))
    show (mergeTo a b c N k ++ setAt _ _).length ≤ _
    rw [List.length_append]; omega
def ok3 (a b c : List Setting) : Bool := settingList a && (settingList b && settingList c)
def conflC (a b c : List Setting) : Int := if ok3 a b c = true then 0 else 1
def conflV (a b c : List Setting) : List ByteArray := if ok3 a b c = true then confl a b c else []
/-- The merge of valid states: a code and a state. -/
def mrgC (a b c : List Setting) : Int := if confl a b c ≠ [] then 6 else if 24 < (mergeL a b c).length then 5 else 0
def mrgV (a b c : List Setting) : List Setting := if mrgC a b c = 0 then mergeL a b c else []
def mergeC (a b c : List Setting) : Int := if ok3 a b c = true then mrgC a b c else 1
def mergeV (a b c : List Setting) : List Setting := if ok3 a b c = true then mrgV a b c else []
theorem ok3_split {a b c : List Setting} (h : ok3 a b c = true) : settingList a = true ∧ settingList b = true ∧ settingList c = true := by
  unfold ok3 at h
  simp only [Bool.and_eq_true] at h
  exact ⟨h.1, h.2.1, h.2.2⟩
theorem state_len {l : List Setting} (h : settingList l = true) : l.length ≤ 24 := vAll_len_le (show vAll _ _ 24 l = true from h)
theorem state_one {l : List Setting} (h : settingList l = true) {k : Nat} (hk : k < l.length) : settingB (nth l k) = true := vAll_one h k hk
theorem state_name {l : List Setting} (h : settingList l = true) {y : Setting} (hy : y ∈ l) : nameB y.name = true ∧ (0 ≤ y.value ∧ y.value ≤ 1000) := by
  obtain ⟨k, hk, rfl⟩ := List.getElem_of_mem hy
  have := state_one h hk
  rw [nth_eq l k hk] at this
  unfold settingB at this
  simp only [Bool.and_eq_true, inB_iff] at this
  exact this
theorem names3_mem {a b c : List Setting} {n : ByteArray} : n ∈ names3 a b c ↔ ∃ y, (y ∈ a ∨ y ∈ b ∨ y ∈ c) ∧ y.name = n := by
  unfold names3
  rw [mem_putAll sloS, List.mem_map]
  constructor
  · rintro (h | ⟨y, hy, rfl⟩)
    · cases h
    · exact ⟨y, by simpa [or_assoc] using hy, rfl⟩
  · rintro ⟨y, hy, rfl⟩
    exact .inr ⟨y, by simpa [or_assoc] using hy, rfl⟩
theorem names3_name {a b c : List Setting} (h : ok3 a b c = true) {n : ByteArray} (hn : n ∈ names3 a b c) : nameB n = true := by
  obtain ⟨ha, hb, hc⟩ := ok3_split h
  obtain ⟨y, hy, rfl⟩ := names3_mem.1 hn
  rcases hy with hy | hy | hy
  · exact (state_name ha hy).1
  · exact (state_name hb hy).1
  · exact (state_name hc hy).1
theorem names3_len {a b c : List Setting} (h : ok3 a b c = true) : (names3 a b c).length ≤ 72 := by
  obtain ⟨ha, hb, hc⟩ := ok3_split h
  have := length_putAll (lt := sLt) ((a ++ b ++ c).map Setting.name) []
  have h1 := state_len ha
  have h2 := state_len hb
  have h3 := state_len hc
  unfold names3
  simp only [List.length_map, List.length_append, List.length_nil] at this ⊢
  omega
theorem name_ne {n : ByteArray} (h : nameB n = true) : n ≠ ⟨#[]⟩ := by
  rintro rfl
  revert h
  decide
theorem thg_bd {l : List Setting} (h : settingList l = true) {n : ByteArray} {v : Int} (hv : thg l n = some v) : 0 ≤ v ∧ v ≤ 1000 := by
  obtain ⟨k, hk, e⟩ := thg_some hv
  have := state_one h hk
  rw [e] at this
  unfold settingB at this
  simp only [Bool.and_eq_true, inB_iff] at this
  exact this.2
/-- Settings set one after the other. -/
def setsS (o : List Setting) : List Setting → List Setting
  | [] => o
  | e :: l => setsS (setK Setting.name sLt e o) l
theorem setsS_snoc (e : Setting) : ∀ (l o : List Setting), setsS o (l ++ [e]) = setK Setting.name sLt e (setsS o l)
  | [], _ => rfl
  | y :: l, o => setsS_snoc e l (setK Setting.name sLt y o)
theorem setsS_append : ∀ (l m o : List Setting), setsS o (l ++ m) = setsS (setsS o l) m
  | [], _, _ => rfl
  | y :: l, m, o => setsS_append l m (setK Setting.name sLt y o)
theorem setsS_names : ∀ (l o : List Setting), IncK Setting.name sLt o → (setsS o l).map Setting.name = putAll sLt (o.map Setting.name) (l.map Setting.name) ∧ IncK Setting.name sLt (setsS o l)
  | [], _, h => ⟨rfl, h⟩
  | e :: l, o, h => by
    have h1 := setK_inc sloS (e := e) h
    have := setsS_names l (setK Setting.name sLt e o) h1
    rw [setK_names sloS h] at this
    exact this
theorem setsS_three (a b c : List Setting) : (setsS (setsS (setsS [] a) b) c).map Setting.name = names3 a b c := by
  rw [← setsS_append, ← setsS_append]
  have := (setsS_names (a ++ (b ++ c)) [] List.Pairwise.nil).1
  rw [← List.append_assoc] at this
  rw [← List.append_assoc, this]; rfl
theorem setsS_len : ∀ (l o : List Setting), IncK Setting.name sLt o → (setsS o l).length ≤ o.length + l.length
  | [], o, _ => Nat.le_refl _
  | e :: l, o, h => by
    have h1 := setK_inc sloS (e := e) h
    have h2 := setsS_len l _ h1
    have h3 := setK_len sloS (e := e) h
    show (setsS (setK Setting.name sLt e o) l).length ≤ _
    rw [List.length_cons]
    split at h3 <;> omega
theorem take_snoc' {α : Type} [Inhabited α] {l : List α} {k : Nat} (h : k < l.length) : l.take (k + 1) = l.take k ++ [nth l k] := by
  rw [List.take_succ_eq_append_getElem h, nth_eq l k h]
theorem confl_bad {a b c : List Setting} (h : ok3 a b c = false) : conflC a b c = 1 ∧ conflV a b c = [] ∧ mergeC a b c = 1 ∧ mergeV a b c = [] := by
  unfold conflC conflV mergeC mergeV
  rw [h]; exact ⟨rfl, rfl, rfl, rfl⟩
theorem confl_good {a b c : List Setting} (h : ok3 a b c = true) : conflC a b c = 0 ∧ conflV a b c = confl a b c ∧ mergeC a b c = mrgC a b c ∧ mergeV a b c = mrgV a b c := by
  unfold conflC conflV mergeC mergeV
  rw [h]; exact ⟨rfl, rfl, rfl, rfl⟩
theorem mrg_6 {a b c : List Setting} (h : 0 < (confl a b c).length) : mrgC a b c = 6 ∧ mrgV a b c = [] := by
  have e : mrgC a b c = 6 := if_pos (fun h0 => by rw [h0] at h; simp at h)
  exact ⟨e, by unfold mrgV; rw [e]; rfl⟩
theorem mrg_5 {a b c : List Setting} (h : (confl a b c).length = 0) (h2 : 24 < (mergeL a b c).length) : mrgC a b c = 5 ∧ mrgV a b c = [] := by
  have e : mrgC a b c = 5 := by unfold mrgC; rw [if_neg (fun h0 => h0 (List.eq_nil_of_length_eq_zero h)), if_pos h2]
  exact ⟨e, by unfold mrgV; rw [e]; rfl⟩
theorem mrg_0 {a b c : List Setting} (h : (confl a b c).length = 0) (h2 : (mergeL a b c).length ≤ 24) : mrgC a b c = 0 ∧ mrgV a b c = mergeL a b c := by
  have e : mrgC a b c = 0 := by unfold mrgC; rw [if_neg (fun h0 => h0 (List.eq_nil_of_length_eq_zero h)), if_neg (by omega)]
  exact ⟨e, if_pos e⟩
end Go.Proofs.YtbcpgdidajapoaaDoor

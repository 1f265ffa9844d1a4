/- Tests in the order of their depths, and groups of them: plain Lean. -/
import Derived.Test.YtdopffhekinbnaaPut
import Derived.Test.YtdopffhekinbnaaTestV
import Derived.Test.YtdopffhekinbnaaSortI
import Derived.Test.YtdopffhekinbnaaAdd
import Derived.Sort.WalkA
namespace Go.Proofs.Ytdopffhekinbnaa
open Go.RowKit
section
variable {α : Type} [Inhabited α] (d : α → Int)
/-- The place that x gets among the first j of o: behind all that are not deeper. -/
def posD (o : List α) (x : α) : Nat → Nat
  | 0 => 0
  | j + 1 => if d x < d (nth o j) then posD o x j else j + 1
theorem posD_le (o : List α) (x : α) : ∀ j, posD d o x j ≤ j
  | 0 => Nat.le_refl _
  | j + 1 => by unfold posD; split; · exact Nat.le_succ_of_le (posD_le o x j)
                · exact Nat.le_refl _
def insD (o : List α) (x : α) : List α := o.take (posD d o x o.length) ++ x :: o.drop (posD d o x o.length)
theorem insD_len (o : List α) (x : α) : (insD d o x).length = o.length + 1 := by
  unfold insD
  have := posD_le d o x o.length
  rw [List.length_append, List.length_cons, List.length_take, List.length_drop]; omega
theorem insD_perm (o : List α) (x : α) : (insD d o x).Perm (o ++ [x]) := by
  unfold insD
  refine List.Perm.trans List.perm_middle ?_
  rw [List.take_append_drop]
  exact (List.perm_append_comm (l₁ := o) (l₂ := [x])).symm
/-- All of a list, put one after the other. -/
def insAll (o : List α) : List α → List α
  | [] => o
  | x :: l => insAll (insD d o x) l
theorem insAll_snoc (x : α) : ∀ (l o : List α), insAll d o (l ++ [x]) = insD d (insAll d o l) x
  | [], _ => rfl
  | y :: l, o => insAll_snoc x l (insD d o y)
theorem insAll_len : ∀ (l o : List α), (insAll d o l).length = o.length + l.length
  | [], _ => rfl
  | y :: l, o => by
    show (insAll d (insD d o y) l).length = _
    rw [insAll_len l, insD_len, List.length_cons]; omega
theorem insAll_perm : ∀ (l o : List α), (insAll d o l).Perm (o ++ l)
  | [], o => by show o.Perm (o ++ []); rw [List.append_nil]
  | y :: l, o => by
    refine (insAll_perm l (insD d o y)).trans ?_
    have := (insD_perm d o y).append_right l
    rwa [List.append_assoc] at this
theorem nth_toArray (l : List α) (k : Nat) (h : k < l.length) : l.toArray[k]! = nth l k := by
  rw [getElem!_pos l.toArray k (by simpa using h), List.getElem_toArray, nth_eq l k h]
theorem swp_adj (T R : List α) (u v : α) : Sort.swp (T ++ u :: v :: R).toArray (T.length + 1) T.length = (T ++ v :: u :: R).toArray := by
  have hl : (T ++ u :: v :: R).length = T.length + R.length + 2 := by simp; omega
  have e1 : (T ++ u :: v :: R).toArray[T.length]! = u := by
    rw [nth_toArray _ _ (by omega)]; simp [nth]
  have e2 : (T ++ u :: v :: R).toArray[T.length + 1]! = v := by
    rw [nth_toArray _ _ (by omega)]; simp [nth]
  unfold Sort.swp
  rw [e1, e2]
  apply Array.ext'
  simp
theorem insInner_pos (lt : α → α → Bool) (hlt : ∀ x y, lt x y = decide (d x < d y)) (o R : List α) (x : α) : ∀ p, p ≤ o.length →
    Sort.insInner lt 0 p (o.take p ++ x :: (o.drop p ++ R)).toArray = (o.take (posD d o x p) ++ x :: (o.drop (posD d o x p) ++ R)).toArray
  | 0, _ => by rw [insInner_stop lt 0 0 _ (.inl (Nat.le_refl _))]; rfl
  | p + 1, h => by
    have e1 : o.take (p + 1) = o.take p ++ [nth o p] := by rw [List.take_succ_eq_append_getElem (show p < o.length by omega), nth_eq o p (by omega)]
    have e2 : o.drop p = nth o p :: o.drop (p + 1) := by rw [List.drop_eq_getElem_cons (show p < o.length by omega), nth_eq o p (by omega)]
    have hA : o.take (p + 1) ++ x :: (o.drop (p + 1) ++ R) = o.take p ++ nth o p :: x :: (o.drop (p + 1) ++ R) := by rw [e1, List.append_assoc]; rfl
    have hT : (o.take p).length = p := by rw [List.length_take]; omega
    have hlen : (o.take p ++ nth o p :: x :: (o.drop (p + 1) ++ R)).length = p + 2 + (o.drop (p + 1) ++ R).length := by rw [List.length_append, hT]; simp only [List.length_cons]; omega
    have g1 : (o.take p ++ nth o p :: x :: (o.drop (p + 1) ++ R)).toArray[p]! = nth o p := by
      rw [nth_toArray _ _ (by omega)]
      simp only [nth, List.getD_eq_getElem?_getD]
      rw [List.getElem?_append_right (by omega), hT, Nat.sub_self]; rfl
    have g2 : (o.take p ++ nth o p :: x :: (o.drop (p + 1) ++ R)).toArray[p + 1]! = x := by
      rw [nth_toArray _ _ (by omega)]
      simp only [nth, List.getD_eq_getElem?_getD]
      rw [List.getElem?_append_right (by omega), hT, show p + 1 - p = 1 by omega]; rfl
    rw [hA]
    by_cases hx : d x < d (nth o p)
    · have hl : lt (o.take p ++ nth o p :: x :: (o.drop (p + 1) ++ R)).toArray[p + 1]! (o.take p ++ nth o p :: x :: (o.drop (p + 1) ++ R)).toArray[p + 1 - 1]! = true := by
        rw [Nat.add_sub_cancel, g1, g2, hlt]; exact decide_eq_true hx
      rw [insInner_go lt 0 (p + 1) _ (Nat.succ_pos _) hl, Nat.add_sub_cancel]
      have hs := swp_adj (o.take p) (o.drop (p + 1) ++ R) (nth o p) x
      rw [hT] at hs
      rw [hs]
      have := insInner_pos lt hlt o R x p (by omega)
      rw [e2, List.cons_append] at this
      rw [this]
      have hp : posD d o x (p + 1) = posD d o x p := by show (if _ then _ else _) = _; rw [if_pos hx]
      rw [hp]
    · have hl : lt (o.take p ++ nth o p :: x :: (o.drop (p + 1) ++ R)).toArray[p + 1]! (o.take p ++ nth o p :: x :: (o.drop (p + 1) ++ R)).toArray[p + 1 - 1]! = false := by
        rw [Nat.add_sub_cancel, g1, g2, hlt]; exact decide_eq_false hx
      rw [insInner_stop lt 0 (p + 1) _ (.inr hl)]
      have hp : posD d o x (p + 1) = p + 1 := by show (if _ then _ else _) = _; rw [if_neg hx]
      rw [hp, ← hA]
theorem insOuter_all (lt : α → α → Bool) (hlt : ∀ x y, lt x y = decide (d x < d y)) : ∀ (R o : List α), Sort.insOuter lt 0 (o.length + R.length) o.length (o ++ R).toArray = (insAll d o R).toArray
  | [], o => by
    rw [insOuter_stop lt 0 _ _ _ (by simp), List.append_nil]; rfl
  | x :: R, o => by
    rw [insOuter_go lt 0 _ _ _ (by rw [List.length_cons]; omega)]
    have := insInner_pos d lt hlt o R x o.length (Nat.le_refl _)
    rw [List.take_length, List.drop_length, List.nil_append] at this
    rw [this]
    have h2 := insOuter_all lt hlt R (insD d o x)
    rw [insD_len] at h2
    rw [List.length_cons, show o.length + (R.length + 1) = o.length + 1 + R.length by omega]
    have e : (o.take (posD d o x o.length) ++ x :: (o.drop (posD d o x o.length) ++ R)).toArray = (insD d o x ++ R).toArray := by unfold insD; rw [List.append_assoc]; rfl
    rw [e, h2]; rfl
/-- Go's insertion sort is the putting of one after the other. -/
theorem insertionSort_all (lt : α → α → Bool) (hlt : ∀ x y, lt x y = decide (d x < d y)) (l : List α) : Sort.insertionSort lt l.toArray 0 l.length = (insAll d [] l).toArray := by
  unfold Sort.insertionSort
  cases l with
  | nil => rw [insOuter_stop lt 0 _ _ _ (by simp)]; rfl
  | cons x R =>
    have := insOuter_all d lt hlt R [x]
    have e : insAll d [x] R = insAll d [] (x :: R) := rfl
    rw [e] at this
    rw [List.length_cons, Nat.add_comm R.length 1]
    exact this
end
theorem posD_map {α : Type} [Inhabited α] {β : Type} [Inhabited β] (f : α → β) (d : β → Int) (o : List α) (x : α) : ∀ j, j ≤ o.length → posD d (o.map f) (f x) j = posD (fun y => d (f y)) o x j
  | 0, _ => rfl
  | j + 1, h => by
    have e : nth (o.map f) j = f (nth o j) := by rw [nth_eq _ _ (by rw [List.length_map]; omega), List.getElem_map, nth_eq o j (by omega)]
    show (if d (f x) < d (nth (o.map f) j) then posD d (o.map f) (f x) j else j + 1) = (if d (f x) < d (f (nth o j)) then posD (fun y => d (f y)) o x j else j + 1)
    rw [e, posD_map f d o x j (by omega)]
theorem insD_map {α : Type} [Inhabited α] {β : Type} [Inhabited β] (f : α → β) (d : β → Int) (o : List α) (x : α) : insD d (o.map f) (f x) = (insD (fun y => d (f y)) o x).map f := by
  unfold insD
  rw [List.length_map, posD_map f d o x o.length (Nat.le_refl _), List.map_append, List.map_cons, List.map_take, List.map_drop]
theorem insAll_map {α : Type} [Inhabited α] {β : Type} [Inhabited β] (f : α → β) (d : β → Int) : ∀ (l o : List α), insAll d (o.map f) (l.map f) = (insAll (fun y => d (f y)) o l).map f
  | [], _ => rfl
  | x :: l, o => by
    show insAll d (insD d (o.map f) (f x)) (l.map f) = _
    rw [insD_map, insAll_map f d l]; rfl
/-- The numbers from 0 up. -/
def ups (n : Nat) : List Int := (List.range n).map Int.ofNat
theorem ups_len (n : Nat) : (ups n).length = n := by unfold ups; rw [List.length_map, List.length_range]
theorem ups_succ (n : Nat) : ups (n + 1) = ups n ++ [(n : Int)] := by unfold ups; rw [List.range_succ, List.map_append]; rfl
theorem ups_mem {n : Nat} {x : Int} : x ∈ ups n ↔ 0 ≤ x ∧ x < n := by
  unfold ups
  rw [List.mem_map]
  constructor
  · rintro ⟨k, hk, rfl⟩
    have := List.mem_range.1 hk
    simp only [Int.ofNat_eq_natCast]; omega
  · intro h
    exact ⟨x.toNat, List.mem_range.2 (by omega), by simp only [Int.ofNat_eq_natCast]; omega⟩
theorem ups_nth {n k : Nat} (h : k < n) : nth (ups n) k = (k : Int) := by
  unfold ups
  rw [nth_eq _ _ (by simpa using h), List.getElem_map, List.getElem_range]; rfl
def dep (l : List Test) (x : Int) : Int := (nth l x.toNat).depth
/-- The first n tests in order of their depths, as numbers. -/
def ordD (l : List Test) (n : Nat) : List Int := insAll (dep l) [] (ups n)
theorem ordD_succ (l : List Test) (n : Nat) : ordD l (n + 1) = insD (dep l) (ordD l n) (n : Int) := by unfold ordD; rw [ups_succ, insAll_snoc]
theorem ordD_len (l : List Test) (n : Nat) : (ordD l n).length = n := by unfold ordD; rw [insAll_len, ups_len]; simp
theorem ordD_perm (l : List Test) (n : Nat) : (ordD l n).Perm (ups n) := by have := insAll_perm (dep l) (ups n) []; rwa [List.nil_append] at this
theorem ordD_mem {l : List Test} {n : Nat} {x : Int} : x ∈ ordD l n ↔ 0 ≤ x ∧ x < n := by rw [(ordD_perm l n).mem_iff, ups_mem]
theorem ordD_nth {l : List Test} {n k : Nat} (h : k < n) : 0 ≤ nth (ordD l n) k ∧ nth (ordD l n) k < n := ordD_mem.1 (nth_mem (by rw [ordD_len]; exact h))
theorem ups_nodup (n : Nat) : (ups n).Nodup := by
  unfold ups
  exact List.pairwise_map.2 ((List.nodup_range (n := n)).imp fun h e => h (Int.ofNat.inj e))
theorem ordD_nodup (l : List Test) (n : Nat) : (ordD l n).Nodup := (ordD_perm l n).nodup_iff.2 (ups_nodup n)
/-- x at the end of the last list. -/
def addLast (L : List (List Int)) (x : Int) : List (List Int) := L.set (L.length - 1) (nth L (L.length - 1) ++ [x])
/-- The groups of the first k of o. -/
def segs (l : List Test) (near : Int) (o : List Int) : Nat → List (List Int)
  | 0 => []
  | k + 1 => if k = 0 ∨ near < dep l (nth o k) - dep l (nth o (k - 1)) then segs l near o k ++ [[nth o k]] else addLast (segs l near o k) (nth o k)
theorem segs_new {l : List Test} {near : Int} {o : List Int} {k : Nat} (h : k = 0 ∨ near < dep l (nth o k) - dep l (nth o (k - 1))) : segs l near o (k + 1) = segs l near o k ++ [[nth o k]] := if_pos h
theorem segs_old {l : List Test} {near : Int} {o : List Int} {k : Nat} (h : ¬ (k = 0 ∨ near < dep l (nth o k) - dep l (nth o (k - 1)))) : segs l near o (k + 1) = addLast (segs l near o k) (nth o k) := if_neg h
theorem segs_len (l : List Test) (near : Int) (o : List Int) : ∀ k, (segs l near o k).length ≤ k ∧ (0 < k → 0 < (segs l near o k).length)
  | 0 => ⟨Nat.le_refl _, fun h => absurd h (Nat.lt_irrefl _)⟩
  | k + 1 => by
    obtain ⟨h1, h2⟩ := segs_len l near o k
    unfold segs
    split
    · rw [List.length_append]; simp; omega
    · rename_i h
      unfold addLast
      rw [List.length_set]
      have : 0 < k := by
        rcases Nat.eq_zero_or_pos k with h0 | h0
        · exact absurd (.inl h0) h
        · exact h0
      have := h2 this
      omega
theorem last_split {L : List (List Int)} (h : 0 < L.length) : L = L.take (L.length - 1) ++ [nth L (L.length - 1)] := by
  have e := List.take_succ_eq_append_getElem (show L.length - 1 < L.length by omega)
  rw [show L.length - 1 + 1 = L.length by omega, List.take_length] at e
  rw [nth_eq L (L.length - 1) (by omega)]; exact e
theorem addLast_eq {L : List (List Int)} (h : 0 < L.length) (x : Int) : addLast L x = L.take (L.length - 1) ++ [nth L (L.length - 1) ++ [x]] := by
  unfold addLast
  generalize hy : nth L (L.length - 1) ++ [x] = y
  conv => lhs; rw [last_split h]
  have hl : (L.take (L.length - 1)).length = L.length - 1 := by rw [List.length_take]; omega
  have hl2 : (L.take (L.length - 1) ++ [nth L (L.length - 1)]).length = L.length := by rw [List.length_append, hl]; simp; omega
  rw [hl2]
  rw [List.set_append_right _ _ (by omega), hl, Nat.sub_self]; rfl
theorem segs_flat (l : List Test) (near : Int) (o : List Int) : ∀ k, k ≤ o.length → (segs l near o k).flatten = o.take k
  | 0, _ => by simp [segs]
  | k + 1, h => by
    have ih := segs_flat l near o k (by omega)
    have e : o.take (k + 1) = o.take k ++ [nth o k] := by rw [List.take_succ_eq_append_getElem (show k < o.length by omega), nth_eq o k (by omega)]
    by_cases hc : k = 0 ∨ near < dep l (nth o k) - dep l (nth o (k - 1))
    · rw [segs_new hc, List.flatten_append, ih, e]; simp
    · have hk : 0 < k := by
        rcases Nat.eq_zero_or_pos k with h0 | h0
        · exact absurd (.inl h0) hc
        · exact h0
      have hp := (segs_len l near o k).2 hk
      have hs := last_split hp
      rw [segs_old hc, addLast_eq hp, e, ← ih]
      conv => rhs; rw [hs]
      simp
theorem segs_pos (l : List Test) (near : Int) (o : List Int) : ∀ k, ∀ x ∈ segs l near o k, 0 < x.length
  | 0, _, h => by cases h
  | k + 1, x, h => by
    by_cases hc : k = 0 ∨ near < dep l (nth o k) - dep l (nth o (k - 1))
    · rw [segs_new hc, List.mem_append] at h
      rcases h with h | h
      · exact segs_pos l near o k x h
      · simp only [List.mem_singleton] at h; subst h; simp
    · have hk : 0 < k := by
        rcases Nat.eq_zero_or_pos k with h0 | h0
        · exact absurd (.inl h0) hc
        · exact h0
      rw [segs_old hc, addLast_eq ((segs_len l near o k).2 hk), List.mem_append] at h
      rcases h with h | h
      · exact segs_pos l near o k x (List.mem_of_mem_take h)
      · simp only [List.mem_singleton] at h; subst h; simp
/-- A group as both sides hand it back. -/
def upG (x : List Int) : List Int := putAll ltI [] x
theorem nodup_mem_flatten {L : List (List Int)} (h : L.flatten.Nodup) {x : List Int} (hx : x ∈ L) : x.Nodup := by
  obtain ⟨A, B, rfl⟩ := List.append_of_mem hx
  rw [List.flatten_append, List.flatten_cons] at h
  exact (h.sublist (List.sublist_append_right _ _)).sublist (List.sublist_append_left _ _)
theorem sortI_up' {x : List Int} (h : x.Nodup) : sortI x = upG x := by
  refine Inc.ext slo_ltI ?_ (inc_putAll slo_ltI List.Pairwise.nil) (fun z => ?_)
  · have hn : (sortI x).Nodup := (sortI_perm x).nodup_iff.2 h
    unfold Inc
    have h1 := sortI_up x
    exact (h1.and hn).imp fun {a b} hab => by rw [ltI_iff]; have := hab.1; have := hab.2; omega
  · unfold upG
    rw [mem_putAll slo_ltI, (sortI_perm x).mem_iff]; simp
theorem upG_len {x : List Int} (h : x.Nodup) : (upG x).length = x.length := by rw [← sortI_up' h, sortI_len]
theorem segs_nodup (l : List Test) (near : Int) (n : Nat) : ∀ x ∈ segs l near (ordD l n) n, x.Nodup := fun x hx => by
  refine nodup_mem_flatten (L := segs l near (ordD l n) n) ?_ hx
  have := segs_flat l near (ordD l n) n (by rw [ordD_len]; exact Nat.le_refl _)
  rw [this]
  exact (ordD_nodup l n).sublist (List.take_sublist _ _)
def nearB (near : Int) : Bool := inB near 0 300
/-- The code and the groups. -/
def depC (l : List Test) (near : Int) : Int := if testList l = true then (if nearB near = true then 0 else 2) else 1
def depV (l : List Test) (near : Int) : List (List Int) := if depC l near = 0 then (segs l near (ordD l l.length) l.length).map upG else []
theorem dep_1 {l : List Test} {near : Int} (h : testList l = false) : depC l near = 1 ∧ depV l near = [] := by
  have e : depC l near = 1 := by unfold depC; rw [h]; rfl
  exact ⟨e, by unfold depV; rw [e]; rfl⟩
theorem dep_2 {l : List Test} {near : Int} (h : testList l = true) (h2 : nearB near = false) : depC l near = 2 ∧ depV l near = [] := by
  have e : depC l near = 2 := by unfold depC; rw [h, h2]; rfl
  exact ⟨e, by unfold depV; rw [e]; rfl⟩
theorem dep_0 {l : List Test} {near : Int} (h : testList l = true) (h2 : nearB near = true) : depC l near = 0 ∧ depV l near = (segs l near (ordD l l.length) l.length).map upG := by
  have e : depC l near = 0 := by unfold depC; rw [h, h2]; rfl
  exact ⟨e, if_pos e⟩
end Go.Proofs.Ytdopffhekinbnaa

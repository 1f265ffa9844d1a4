/- Chapter 10: the search for the best stands to be planted, as both sides compute it. Plain Lean. -/
import Derived.Test.YtmkmmenkjbmppaaStandV
import Derived.Test.YtmkmmenkjbmppaaSrch
namespace Go.Proofs.Ytmkmmenkjbmppaa
open Go.RowKit
/-- The j-th stand, planted or not. -/
def standAt (l : List Stand) (set : List Int) (j : Nat) : Stand := if hasB set j = true then plantedS (nth l j) else nth l j
def protB (l : List Stand) (snow least : Int) (set : List Int) (j : Nat) : Bool := decide (least ≤ protS (standAt l set j) snow)
/-- How many of the first stands protect. -/
def cntP (l : List Stand) (snow least : Int) (set : List Int) : Nat → Int
  | 0 => 0
  | j + 1 => if protB l snow least set j = true then cntP l snow least set j + 1 else cntP l snow least set j
theorem cntP_bd (l : List Stand) (snow least : Int) (set : List Int) : ∀ j, 0 ≤ cntP l snow least set j ∧ cntP l snow least set j ≤ j
  | 0 => ⟨Int.le_refl _, Int.le_refl _⟩
  | j + 1 => by
    have := cntP_bd l snow least set j
    unfold cntP; split <;> omega
/-- Lexicographic order. -/
def lexB : List Int → List Int → Bool
  | [], [] => false
  | [], _ :: _ => true
  | _ :: _, [] => false
  | a :: x, b :: y => if a = b then lexB x y else decide (a < b)
theorem lexB_at : ∀ {a b : List Int} {i : Nat}, (∀ j, j < i → nth a j = nth b j) → i < a.length → i < b.length → nth a i ≠ nth b i → lexB a b = decide (nth a i < nth b i)
  | [], _, _, _, h, _, _ => absurd h (Nat.not_lt_zero _)
  | _ :: _, [], _, _, _, h, _ => absurd h (Nat.not_lt_zero _)
  | a :: x, b :: y, 0, _, _, _, h => by
    have h' : a ≠ b := h
    show (if a = b then lexB x y else decide (a < b)) = decide (a < b)
    rw [if_neg h']
  | a :: x, b :: y, i + 1, h0, h1, h2, h => by
    have e : a = b := h0 0 (Nat.succ_pos _)
    show (if a = b then lexB x y else decide (a < b)) = _
    rw [if_pos e]
    exact lexB_at (a := x) (b := y) (i := i) (fun j hj => h0 (j + 1) (by omega)) (by simpa using h1) (by simpa using h2) h
theorem lexB_end : ∀ {a b : List Int}, (∀ j, j < a.length → j < b.length → nth a j = nth b j) → lexB a b = decide (a.length < b.length)
  | [], [], _ => rfl
  | [], _ :: y, _ => by show true = decide (0 < y.length + 1); simp
  | _ :: x, [], _ => by show false = decide (x.length + 1 < 0); simp
  | a :: x, b :: y, h => by
    have e : a = b := h 0 (Nat.succ_pos _) (Nat.succ_pos _)
    show (if a = b then lexB x y else decide (a < b)) = _
    rw [if_pos e, lexB_end (a := x) (b := y) fun j h1 h2 => h (j + 1) (by simpa using h1) (by simpa using h2)]
    simp
structure Ps where
  best : List Int
  most : Int
  left : Int
def updP (many : Int) (set : List Int) (s : Ps) : Ps := if s.most < many ∨ (many = s.most ∧ lexB set s.best = true) then ⟨set, many, s.left⟩ else s
def nodeP (f : Ps → Ps) (s : Ps) : Ps := if s.left ≤ 0 then { s with left := -1 } else f { s with left := s.left - 1 }
/-- The search behind the first i stands; d are left. -/
def visP (l : List Stand) (costs : List Int) (snow least : Int) : Nat → Nat → Int → List Int → Ps → Ps
  | 0, i, _, set, s => updP (cntP l snow least set i) set s
  | d + 1, i, money, set, s => nodeP (visP l costs snow least d (i + 1) money set) (if nth costs i ≤ money then nodeP (visP l costs snow least d (i + 1) (money - nth costs i) (set ++ [(i : Int)])) s else s)
theorem updP_yes {many : Int} {set : List Int} {s : Ps} (h : s.most < many ∨ (many = s.most ∧ lexB set s.best = true)) : updP many set s = ⟨set, many, s.left⟩ := if_pos h
theorem updP_no {many : Int} {set : List Int} {s : Ps} (h : ¬ (s.most < many ∨ (many = s.most ∧ lexB set s.best = true))) : updP many set s = s := if_neg h
theorem updP_left (many : Int) (set : List Int) (s : Ps) : (updP many set s).left = s.left := by unfold updP; split <;> rfl
theorem nodeP_out {f : Ps → Ps} {s : Ps} (h : s.left ≤ 0) : nodeP f s = { s with left := -1 } := if_pos h
theorem nodeP_go {f : Ps → Ps} {s : Ps} (h : ¬ s.left ≤ 0) : nodeP f s = f { s with left := s.left - 1 } := if_neg h
/-- The places of a set are below i. -/
def Below0 (set : List Int) (i : Nat) : Prop := ∀ x ∈ set, 0 ≤ x ∧ x < i
theorem Below0.nil (i : Nat) : Below0 [] i := fun x h => by cases h
theorem Below0.keep {set : List Int} {i : Nat} (h : Below0 set i) : Below0 set (i + 1) := fun x hx => by have := h x hx; omega
theorem Below0.push {set : List Int} {i : Nat} (h : Below0 set i) : Below0 (set ++ [(i : Int)]) (i + 1) := fun x hx => by
  rcases List.mem_append.1 hx with hx | hx
  · have := h x hx; omega
  · rw [List.mem_singleton] at hx; omega
theorem Below0.has {set : List Int} {i : Nat} (h : Below0 set i) {j : Nat} (hj : i ≤ j) : hasB set j = false := by
  rw [← Bool.not_eq_true, hasB_iff]; intro hm; have := h _ hm; omega
theorem protB_old {l : List Stand} {snow least : Int} {set : List Int} {i j : Nat} (hj : j < i) : protB l snow least (set ++ [(i : Int)]) j = protB l snow least set j := by
  have e : hasB (set ++ [(i : Int)]) (j : Int) = hasB set (j : Int) := by
    rw [Bool.eq_iff_iff, hasB_iff, hasB_iff, List.mem_append, List.mem_singleton]
    constructor
    · rintro (h | h)
      · exact h
      · omega
    · exact .inl
  unfold protB standAt; rw [e]
theorem cntP_old {l : List Stand} {snow least : Int} {set : List Int} {i : Nat} : ∀ j, j ≤ i → cntP l snow least (set ++ [(i : Int)]) j = cntP l snow least set j
  | 0, _ => rfl
  | j + 1, h => by
    unfold cntP
    rw [protB_old (by omega), cntP_old j (by omega)]
/-- One stand more, planted. -/
theorem cntP_plant {l : List Stand} {snow least : Int} {set : List Int} {i : Nat} : cntP l snow least (set ++ [(i : Int)]) (i + 1) = if least ≤ protS (plantedS (nth l i)) snow then cntP l snow least set i + 1 else cntP l snow least set i := by
  have e : protB l snow least (set ++ [(i : Int)]) i = decide (least ≤ protS (plantedS (nth l i)) snow) := by
    unfold protB standAt; rw [if_pos (hasB_iff.2 (by simp))]
  show (if protB l snow least (set ++ [(i : Int)]) i = true then _ else _) = _
  rw [e, cntP_old i (Nat.le_refl _)]
  simp only [decide_eq_true_eq]
/-- One stand more, as it is. -/
theorem cntP_keep {l : List Stand} {snow least : Int} {set : List Int} {i : Nat} (h : Below0 set i) : cntP l snow least set (i + 1) = if least ≤ protS (nth l i) snow then cntP l snow least set i + 1 else cntP l snow least set i := by
  have e : protB l snow least set i = decide (least ≤ protS (nth l i) snow) := by
    unfold protB standAt; rw [if_neg (by rw [h.has (Nat.le_refl _)]; decide)]
  show (if protB l snow least set i = true then _ else _) = _
  rw [e]
  simp only [decide_eq_true_eq]
/-- What the search keeps: the worth is small, the best set is short. -/
structure PsOk (n : Nat) (s : Ps) : Prop where
  lo : -1 ≤ s.most
  hi : s.most ≤ n
  len : s.best.length ≤ n
  left0 : -1 ≤ s.left
  left1 : s.left ≤ 20000
theorem PsOk.upd {n : Nat} {s : Ps} {many : Int} {set : List Int} (h : PsOk n s) (h0 : 0 ≤ many) (h1 : many ≤ n) (h2 : set.length ≤ n) : PsOk n (updP many set s) := by
  unfold updP; split
  · exact ⟨by show -1 ≤ many; omega, h1, h2, h.left0, h.left1⟩
  · exact h
theorem PsOk.node {n : Nat} {s : Ps} {f : Ps → Ps} (h : PsOk n s) (hf : ∀ t, PsOk n t → PsOk n (f t)) : PsOk n (nodeP f s) := by
  have h0 := h.left0
  have h1 := h.left1
  unfold nodeP; split
  · exact ⟨h.lo, h.hi, h.len, Int.le_refl _, by show -1 ≤ (20000 : Int); decide⟩
  · exact hf _ ⟨h.lo, h.hi, h.len, by show -1 ≤ s.left - 1; omega, by show s.left - 1 ≤ 20000; omega⟩
theorem visP_ok {l : List Stand} {costs : List Int} {snow least : Int} {n : Nat} : ∀ (d i : Nat) (money : Int) (set : List Int) (s : Ps), i + d = n → set.length ≤ i → PsOk n s → PsOk n (visP l costs snow least d i money set s)
  | 0, i, money, set, s, h1, h2, hs => by
    have := cntP_bd l snow least set i
    exact hs.upd this.1 (by omega) (by omega)
  | d + 1, i, money, set, s, h1, h2, hs => by
    show PsOk n (nodeP _ _)
    have a : PsOk n (if nth costs i ≤ money then nodeP (visP l costs snow least d (i + 1) (money - nth costs i) (set ++ [(i : Int)])) s else s) := by
      split
      · exact hs.node fun t ht => visP_ok d (i + 1) _ _ t (by omega) (by rw [List.length_append]; simp only [List.length_cons, List.length_nil]; omega) ht
      · exact hs
    exact a.node fun t ht => visP_ok d (i + 1) _ _ t (by omega) (by omega) ht
/-- The whole search. -/
def bestP (l : List Stand) (costs : List Int) (money snow least budget : Int) : Ps := visP l costs snow least l.length 0 money [] ⟨[], -1, budget⟩
theorem bestP_ok (l : List Stand) (costs : List Int) (money snow least budget : Int) (h0 : 0 ≤ budget) (h1 : budget ≤ 20000) : PsOk l.length (bestP l costs money snow least budget) :=
  visP_ok l.length 0 money [] _ (by omega) (Nat.le_refl _) ⟨Int.le_refl _, by show (-1 : Int) ≤ _; omega, Nat.zero_le _, by show -1 ≤ budget; omega, h1⟩
/-- Whether the arguments are as they must be. -/
def plantAsk (l : List Stand) (costs : List Int) (money snow least budget : Int) : Bool := inB snow 0 2000 && inB least 0 1000 && (decide (costs.length = l.length) && (allIn costs 0 1000000 && (inB money 0 100000000 && inB budget 1 20000)))
def plantC (l : List Stand) (costs : List Int) (money snow least budget : Int) : Int := if standList l = true then (if plantAsk l costs money snow least budget = true then (if (bestP l costs money snow least budget).left < 0 then 5 else 0) else 2) else 1
def plantV (l : List Stand) (costs : List Int) (money snow least budget : Int) : List Int := if plantC l costs money snow least budget = 0 then (bestP l costs money snow least budget).best else []
def plantG (l : List Stand) (costs : List Int) (money snow least budget : Int) : Int := if plantC l costs money snow least budget = 0 then (bestP l costs money snow least budget).most else 0
section
variable {l : List Stand} {costs : List Int} {money snow least budget : Int}
theorem plant_no {c : Int} (h : plantC l costs money snow least budget = c) (hc : c ≠ 0) : plantC l costs money snow least budget = c ∧ plantV l costs money snow least budget = [] ∧ plantG l costs money snow least budget = 0 :=
  ⟨h, by unfold plantV; rw [if_neg (by rw [h]; exact hc)], by unfold plantG; rw [if_neg (by rw [h]; exact hc)]⟩
theorem plant_1 (h : standList l = false) : plantC l costs money snow least budget = 1 ∧ plantV l costs money snow least budget = [] ∧ plantG l costs money snow least budget = 0 :=
  plant_no (by unfold plantC; rw [h]; rfl) (by decide)
theorem plant_2 (h : standList l = true) (h2 : plantAsk l costs money snow least budget = false) : plantC l costs money snow least budget = 2 ∧ plantV l costs money snow least budget = [] ∧ plantG l costs money snow least budget = 0 :=
  plant_no (by unfold plantC; rw [if_pos h, h2]; rfl) (by decide)
theorem plant_5 (h : standList l = true) (h2 : plantAsk l costs money snow least budget = true) (h3 : (bestP l costs money snow least budget).left < 0) : plantC l costs money snow least budget = 5 ∧ plantV l costs money snow least budget = [] ∧ plantG l costs money snow least budget = 0 :=
  plant_no (by unfold plantC; rw [if_pos h, if_pos h2, if_pos h3]) (by decide)
theorem plant_0 (h : standList l = true) (h2 : plantAsk l costs money snow least budget = true) (h3 : ¬ (bestP l costs money snow least budget).left < 0) : plantC l costs money snow least budget = 0 ∧ plantV l costs money snow least budget = (bestP l costs money snow least budget).best ∧ plantG l costs money snow least budget = (bestP l costs money snow least budget).most := by
  have e : plantC l costs money snow least budget = 0 := by unfold plantC; rw [if_pos h, if_pos h2, if_neg h3]
  exact ⟨e, if_pos e, if_pos e⟩
end
theorem plantV_len (l : List Stand) (costs : List Int) (money snow least budget : Int) : (plantV l costs money snow least budget).length ≤ l.length := by
  unfold plantV; split
  · rename_i h
    unfold plantC at h
    split at h
    · split at h
      · rename_i h2
        unfold plantAsk at h2
        simp only [Bool.and_eq_true, inB_iff] at h2
        exact (bestP_ok l costs money snow least budget (by omega) h2.2.2.2.2.2).len
      · cases h
    · cases h
  · exact Nat.zero_le _
end Go.Proofs.Ytmkmmenkjbmppaa

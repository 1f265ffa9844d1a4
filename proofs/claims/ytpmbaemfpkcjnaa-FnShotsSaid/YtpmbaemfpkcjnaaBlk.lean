/- Parts of a day at which work is done: by putting pieces together, and minute by minute. Plain Lean. -/
import Derived.Test.YtpmbaemfpkcjnaaBase
namespace Go.Proofs.Ytpmbaemfpkcjnaa
open Go.RowKit
/-- Disjoint parts in order, no two of them touching. -/
def Can (P : List (Int × Int)) : Prop := (∀ p ∈ P, p.1 < p.2) ∧ P.Pairwise (fun p q => p.2 < q.1)
def cov (P : List (Int × Int)) (x : Int) : Prop := ∃ p ∈ P, p.1 ≤ x ∧ x < p.2
theorem Can.tail {p : Int × Int} {P : List (Int × Int)} (h : Can (p :: P)) : Can P := ⟨fun q hq => h.1 q (List.mem_cons_of_mem _ hq), (List.pairwise_cons.1 h.2).2⟩
theorem can_head {p : Int × Int} {P : List (Int × Int)} (h : Can (p :: P)) {q : Int × Int} (hq : q ∈ P) : p.2 < q.1 ∧ q.1 < q.2 := ⟨(List.pairwise_cons.1 h.2).1 q hq, h.1 q (List.mem_cons_of_mem _ hq)⟩
/-- Such parts are told by what they cover. -/
theorem Can.ext : ∀ {P Q : List (Int × Int)}, Can P → Can Q → (∀ x, cov P x ↔ cov Q x) → P = Q
  | [], [], _, _, _ => rfl
  | [], q :: Q, _, hQ, e => by
    obtain ⟨p, hp, -⟩ := (e q.1).2 ⟨q, List.mem_cons_self .., Int.le_refl _, hQ.1 q (List.mem_cons_self ..)⟩
    cases hp
  | p :: P, [], hP, _, e => by
    obtain ⟨q, hq, -⟩ := (e p.1).1 ⟨p, List.mem_cons_self .., Int.le_refl _, hP.1 p (List.mem_cons_self ..)⟩
    cases hq
  | (a, b) :: P, (c, d) :: Q, hP, hQ, e => by
    have hab : a < b := hP.1 (a, b) (List.mem_cons_self ..)
    have hcd : c < d := hQ.1 (c, d) (List.mem_cons_self ..)
    have low : ∀ {a b : Int} {P : List (Int × Int)}, Can ((a, b) :: P) → ∀ x, cov ((a, b) :: P) x → a ≤ x := fun {a b P} h x ⟨p, hp, h1, h2⟩ => by
      rcases List.mem_cons.1 hp with rfl | h3
      · exact h1
      · have := can_head h h3; have := h.1 (a, b) (List.mem_cons_self ..); simp only at *; omega
    have gap : ∀ {a b : Int} {P : List (Int × Int)}, Can ((a, b) :: P) → ¬ cov ((a, b) :: P) b := fun {a b P} h ⟨p, hp, h1, h2⟩ => by
      rcases List.mem_cons.1 hp with rfl | h3
      · simp only at *; omega
      · have := can_head h h3; simp only at *; omega
    have hac : a = c := by
      have h1 := low hQ a ((e a).1 ⟨(a, b), List.mem_cons_self .., Int.le_refl _, hab⟩)
      have h2 := low hP c ((e c).2 ⟨(c, d), List.mem_cons_self .., Int.le_refl _, hcd⟩)
      omega
    subst hac
    have hbd : b = d := by
      rcases Int.lt_trichotomy b d with h | h | h
      · exact absurd ((e b).2 ⟨(a, d), List.mem_cons_self .., by simp only; omega, by simp only; omega⟩) (gap hP)
      · exact h
      · exact absurd ((e d).1 ⟨(a, b), List.mem_cons_self .., by simp only; omega, by simp only; omega⟩) (gap hQ)
    subst hbd
    rw [Can.ext hP.tail hQ.tail (fun x => ?_)]
    have up : ∀ {P : List (Int × Int)}, Can ((a, b) :: P) → ∀ x, cov P x ↔ (cov ((a, b) :: P) x ∧ b < x) := fun {P} h x => by
      constructor
      · rintro ⟨p, hp, h1, h2⟩
        have := can_head h hp
        exact ⟨⟨p, List.mem_cons_of_mem _ hp, h1, h2⟩, by simp only at *; omega⟩
      · rintro ⟨⟨p, hp, h1, h2⟩, h3⟩
        rcases List.mem_cons.1 hp with rfl | h4
        · simp only at *; omega
        · exact ⟨p, h4, h1, h2⟩
    rw [up hP, up hQ, e]
/-- A piece of work put behind the parts so far. -/
def addW (P : List (Int × Int)) (w : Int × Int) : List (Int × Int) :=
  match P.getLast? with
  | none => [w]
  | some q => if w.1 ≤ q.2 then P.dropLast ++ [(q.1, max q.2 w.2)] else P ++ [w]
theorem addW_nil (w : Int × Int) : addW [] w = [w] := rfl
theorem addW_snoc (P : List (Int × Int)) (q w : Int × Int) : addW (P ++ [q]) w = if w.1 ≤ q.2 then P ++ [(q.1, max q.2 w.2)] else P ++ [q] ++ [w] := by
  unfold addW; rw [List.getLast?_concat, List.dropLast_concat]
theorem cov_append {P Q : List (Int × Int)} {x : Int} : cov (P ++ Q) x ↔ cov P x ∨ cov Q x := by
  unfold cov
  constructor
  · rintro ⟨p, hp, h⟩
    rcases List.mem_append.1 hp with h1 | h1
    · exact .inl ⟨p, h1, h⟩
    · exact .inr ⟨p, h1, h⟩
  · rintro (⟨p, hp, h⟩ | ⟨p, hp, h⟩)
    · exact ⟨p, List.mem_append_left _ hp, h⟩
    · exact ⟨p, List.mem_append_right _ hp, h⟩
theorem cov_one {p : Int × Int} {x : Int} : cov [p] x ↔ p.1 ≤ x ∧ x < p.2 := by
  unfold cov; simp
theorem can_snoc {P : List (Int × Int)} {q : Int × Int} : Can (P ++ [q]) ↔ Can P ∧ q.1 < q.2 ∧ ∀ p ∈ P, p.2 < q.1 := by
  unfold Can
  rw [List.pairwise_append]
  constructor
  · rintro ⟨h1, h2, -, h3⟩
    exact ⟨⟨fun p hp => h1 p (List.mem_append_left _ hp), h2⟩, h1 q (by simp), fun p hp => h3 p hp q (by simp)⟩
  · rintro ⟨⟨h1, h2⟩, h3, h4⟩
    refine ⟨fun p hp => ?_, h2, List.pairwise_singleton .., fun p hp r hr => ?_⟩
    · rcases List.mem_append.1 hp with h | h
      · exact h1 p h
      · obtain rfl : p = q := by simpa using h
        exact h3
    · obtain rfl : r = q := by simpa using hr
      exact h4 p hp
theorem addW_can {P : List (Int × Int)} {w : Int × Int} (h : Can P) (hw : w.1 < w.2) (hs : ∀ p ∈ P, p.1 ≤ w.1) :
    Can (addW P w) ∧ (∀ x, cov (addW P w) x ↔ cov P x ∨ (w.1 ≤ x ∧ x < w.2)) ∧ (∀ p ∈ addW P w, p.1 ≤ w.1) := by
  rcases List.eq_nil_or_concat P with rfl | ⟨P, q, rfl⟩
  · rw [addW_nil]
    refine ⟨⟨fun p hp => ?_, List.pairwise_singleton ..⟩, fun x => ?_, fun p hp => ?_⟩
    · obtain rfl : p = w := by simpa using hp
      exact hw
    · rw [cov_one]; simp [cov]
    · obtain rfl : p = w := by simpa using hp
      exact Int.le_refl _
  · rw [List.concat_eq_append] at *
    obtain ⟨h1, h2, h3⟩ := can_snoc.1 h
    have hq := hs q (by simp)
    rw [addW_snoc]
    split
    · rename_i hle
      have hm1 : q.2 ≤ max q.2 w.2 := Int.le_max_left ..
      have hm2 : w.2 ≤ max q.2 w.2 := Int.le_max_right ..
      have hm3 : max q.2 w.2 = q.2 ∨ max q.2 w.2 = w.2 := by omega
      refine ⟨can_snoc.2 ⟨h1, by simp only; omega, h3⟩, fun x => ?_, fun p hp => ?_⟩
      · rw [cov_append, cov_append, cov_one, cov_one]
        simp only
        constructor
        · rintro (h4 | h4)
          · exact .inl (.inl h4)
          · by_cases h5 : x < q.2
            · exact .inl (.inr (by omega))
            · exact .inr (by omega)
        · rintro ((h4 | h4) | h4)
          · exact .inl h4
          · exact .inr (by omega)
          · exact .inr (by omega)
      · rcases List.mem_append.1 hp with h4 | h4
        · exact hs p (List.mem_append_left _ h4)
        · obtain rfl : p = (q.1, max q.2 w.2) := by simpa using h4
          exact hq
    · rename_i hle
      refine ⟨can_snoc.2 ⟨h, hw, fun p hp => ?_⟩, fun x => by rw [cov_append, cov_one], fun p hp => ?_⟩
      · rcases List.mem_append.1 hp with h4 | h4
        · have := h3 p h4; omega
        · obtain rfl : p = q := by simpa using h4
          omega
      · rcases List.mem_append.1 hp with h4 | h4
        · exact hs p h4
        · obtain rfl : p = w := by simpa using h4
          exact Int.le_refl _
/-- All pieces of work, by their beginnings. -/
def addAll (P : List (Int × Int)) : List (Int × Int) → List (Int × Int)
  | [] => P
  | w :: W => addAll (addW P w) W
theorem addAll_can : ∀ {W P : List (Int × Int)}, Can P → (∀ w ∈ W, w.1 < w.2) → W.Pairwise (fun a b => a.1 ≤ b.1) → (∀ p ∈ P, ∀ w ∈ W, p.1 ≤ w.1) → Can (addAll P W) ∧ ∀ x, cov (addAll P W) x ↔ cov P x ∨ cov W x
  | [], P, h, _, _, _ => ⟨h, fun x => by simp [addAll, cov]⟩
  | w :: W, P, h, hw, hs, hp => by
    rw [List.pairwise_cons] at hs
    obtain ⟨h1, h2, h3⟩ := addW_can h (hw w (by simp)) (fun p hp' => hp p hp' w (by simp))
    obtain ⟨h4, h5⟩ := addAll_can (W := W) h1 (fun v hv => hw v (List.mem_cons_of_mem _ hv)) hs.2 (fun p hp' v hv => Int.le_trans (h3 p hp') (hs.1 v hv))
    refine ⟨h4, fun x => ?_⟩
    show cov (addAll (addW P w) W) x ↔ _
    rw [h5, h2, or_assoc]
    have : cov (w :: W) x ↔ (w.1 ≤ x ∧ x < w.2) ∨ cov W x := by rw [show w :: W = [w] ++ W from rfl, cov_append, cov_one]
    rw [this]
/-- Minute by minute: the parts that are over, and where the present one began (-1: none). -/
def swp (b : Nat → Bool) : Nat → List (Int × Int) × Int
  | 0 => ([], -1)
  | m + 1 =>
    let s := swp b m
    if b m = true then (s.1, if s.2 < 0 then (m : Int) else s.2) else if 0 ≤ s.2 then (s.1 ++ [(s.2, (m : Int))], -1) else s
theorem swp_inv (b : Nat → Bool) : ∀ m, Can (swp b m).1 ∧ ((swp b m).2 = -1 ∧ (∀ p ∈ (swp b m).1, p.2 < m) ∧ (∀ x : Int, cov (swp b m).1 x ↔ ∃ k : Nat, k < m ∧ x = k ∧ b k = true)
    ∨ ∃ f : Nat, (swp b m).2 = f ∧ f < m ∧ (∀ p ∈ (swp b m).1, p.2 < f) ∧ (∀ k, f ≤ k → k < m → b k = true) ∧ (∀ x : Int, cov (swp b m).1 x ↔ ∃ k : Nat, k < f ∧ x = k ∧ b k = true))
  | 0 => ⟨⟨fun _ h => (by cases h), List.Pairwise.nil⟩, .inl ⟨rfl, fun _ h => (by cases h), fun x => ⟨fun ⟨_, h, _⟩ => (by cases h), fun ⟨k, h, _⟩ => absurd h (Nat.not_lt_zero _)⟩⟩⟩
  | m + 1 => by
    have ih := swp_inv b m
    show Can (if b m = true then _ else _ : List (Int × Int) × Int).1 ∧ _
    cases hb : b m
    · rcases ih with ⟨h1, ⟨h2, h3, h4⟩ | ⟨f, h2, h3, h4, h5, h6⟩⟩
      · have e : swp b (m + 1) = swp b m := by
          show (if b m = true then _ else _) = _
          rw [hb, if_neg (by decide), if_neg (by rw [h2]; decide)]
        rw [e]
        rw [if_neg (by decide), if_neg (by rw [h2]; decide)]
        refine ⟨h1, .inl ⟨h2, fun p hp => by have := h3 p hp; omega, fun x => ?_⟩⟩
        rw [h4]
        constructor
        · rintro ⟨k, hk, r⟩; exact ⟨k, by omega, r⟩
        · rintro ⟨k, hk, e, r⟩
          rcases (show k < m ∨ k = m by omega) with h | rfl
          · exact ⟨k, h, e, r⟩
          · rw [hb] at r; cases r
      · have e : swp b (m + 1) = ((swp b m).1 ++ [((f : Int), (m : Int))], -1) := by
          show (if b m = true then _ else _) = _
          rw [hb, if_neg (by decide), if_pos (by rw [h2]; omega), h2]
        rw [e]
        rw [if_neg (by decide), if_pos (by rw [h2]; omega), h2]
        refine ⟨can_snoc.2 ⟨h1, by simp only; omega, h4⟩, .inl ⟨rfl, fun p hp => ?_, fun x => ?_⟩⟩
        · rcases List.mem_append.1 hp with h | h
          · have := h4 p h; omega
          · obtain rfl : p = ((f : Int), (m : Int)) := by simpa using h
            simp only; omega
        · rw [cov_append, cov_one, h6]
          simp only
          constructor
          · rintro (⟨k, hk, r⟩ | ⟨h, h'⟩)
            · exact ⟨k, by omega, r⟩
            · exact ⟨x.toNat, by omega, by omega, h5 _ (by omega) (by omega)⟩
          · rintro ⟨k, hk, rfl, r⟩
            by_cases h : k < f
            · exact .inl ⟨k, h, rfl, r⟩
            · rcases (show k < m ∨ k = m by omega) with h' | rfl
              · exact .inr (by omega)
              · rw [hb] at r; cases r
    · rw [if_pos rfl]
      rcases ih with ⟨h1, ⟨h2, h3, h4⟩ | ⟨f, h2, h3, h4, h5, h6⟩⟩
      · have e : swp b (m + 1) = ((swp b m).1, (m : Int)) := by
          show (if b m = true then _ else _) = _
          rw [hb, if_pos rfl, if_pos (by rw [h2]; decide)]
        rw [e]
        refine ⟨h1, .inr ⟨m, rfl, by omega, h3, fun k hk hk' => ?_, h4⟩⟩
        obtain rfl : k = m := by omega
        exact hb
      · have e : swp b (m + 1) = ((swp b m).1, (f : Int)) := by
          show (if b m = true then _ else _) = _
          rw [hb, if_pos rfl, if_neg (by rw [h2]; omega), h2]
        rw [e]
        refine ⟨h1, .inr ⟨f, rfl, by omega, h4, fun k hk hk' => ?_, h6⟩⟩
        rcases (show k < m ∨ k = m by omega) with h' | rfl
        · exact h5 k hk h'
        · exact hb
/-- Both ways give the same parts. -/
theorem swp_addAll {W : List (Int × Int)} (hw : ∀ w ∈ W, w.1 < w.2 ∧ 0 ≤ w.1 ∧ w.2 ≤ 1440) (hs : W.Pairwise (fun a b => a.1 ≤ b.1)) {b : Nat → Bool} (hb : ∀ k, b k = true ↔ cov W k) : (swp b 1441).1 = addAll [] W := by
  obtain ⟨h1, h2⟩ := addAll_can (W := W) (P := []) ⟨fun _ h => (by cases h), List.Pairwise.nil⟩ (fun w h => (hw w h).1) hs (fun _ h => (by cases h))
  obtain ⟨h3, h4⟩ := swp_inv b 1441
  have hlast : b 1440 = false := by
    rw [← Bool.not_eq_true, hb]
    rintro ⟨w, h, -, h'⟩
    have := hw w h
    omega
  rcases h4 with ⟨-, -, h5⟩ | ⟨f, -, hf, -, h6, -⟩
  · refine Can.ext h3 h1 fun x => ?_
    rw [h5, h2]
    constructor
    · rintro ⟨k, hk, rfl, r⟩
      exact .inr ((hb k).1 r)
    · rintro (⟨_, h, _⟩ | ⟨w, h, h7, h8⟩)
      · cases h
      · have := hw w h
        refine ⟨x.toNat, by omega, by omega, (hb _).2 ⟨w, h, by omega, by omega⟩⟩
  · have := h6 1440 (by omega) (by omega)
    rw [hlast] at this; cases this
end Go.Proofs.Ytpmbaemfpkcjnaa

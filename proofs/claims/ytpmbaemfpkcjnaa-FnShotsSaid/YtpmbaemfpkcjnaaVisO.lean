/- A search through all orders finds none better than what it hands back, where its budget suffices. Plain Lean. -/
import Derived.Test.YtpmbaemfpkcjnaaSrch
import Derived.Test.YtpmbaemfpkcjnaaLists
namespace Go.Proofs.Ytpmbaemfpkcjnaa
open Go.RowKit
/-- An order that a search can reach from another one. -/
inductive Way (n : Nat) (ok : List Int → Bool) : List Int → List Int → Prop
  | here (o : List Int) : Way n ok o o
  | more {o e : List Int} (k : Nat) : k < n → hasB o k = false → ok (o ++ [(k : Int)]) = true → Way n ok (o ++ [(k : Int)]) e → Way n ok o e
theorem Way.len {n : Nat} {ok : List Int → Bool} {o e : List Int} (h : Way n ok o e) : o.length ≤ e.length := by
  induction h with
  | here o => exact Nat.le_refl _
  | more k _ _ _ _ ih => rw [List.length_append] at ih; simp only [List.length_cons, List.length_nil] at ih; omega
/-- What a search may do at an order. -/
structure UpdOk (upd : List Int → St → St) (G : List Int → Int) : Prop where
  left : ∀ o s, (upd o s).left = s.left
  fnd : ∀ o s, (upd o s).found = s.found
  mono : ∀ o s, s.most ≤ (upd o s).most
  hit : ∀ o s, G o ≤ (upd o s).most
/-- What a visit keeps. -/
structure VisK (s s' : St) : Prop where
  left : s'.left ≤ s.left
  fnd : s'.found = s.found
  most : s.most ≤ s'.most
theorem VisK.refl (s : St) : VisK s s := ⟨Int.le_refl _, rfl, Int.le_refl _⟩
theorem VisK.trans {a b c : St} (h : VisK a b) (k : VisK b c) : VisK a c := ⟨Int.le_trans k.left h.left, k.fnd.trans h.fnd, Int.le_trans h.most k.most⟩
theorem stepV_keep {ok : List Int → Bool} {rec : List Int → St → St} (hr : ∀ o s, VisK s (rec o s)) (o : List Int) (s : St) (k : Nat) : VisK s (stepV ok rec o s k) := by
  unfold stepV
  split
  · exact VisK.refl _
  · split
    · exact VisK.refl _
    · split
      · split
        · rename_i h; exact ⟨by show (-1 : Int) ≤ s.left; omega, rfl, Int.le_refl _⟩
        · have h := hr (o ++ [(k : Int)]) { s with left := s.left - 1 }
          exact ⟨by have := h.left; show _ ≤ s.left; have h2 : ({ s with left := s.left - 1 } : St).left = s.left - 1 := rfl; omega, h.fnd, h.most⟩
      · exact VisK.refl _
theorem loopV_keep {ok : List Int → Bool} {rec : List Int → St → St} (hr : ∀ o s, VisK s (rec o s)) (o : List Int) (s : St) : ∀ k, VisK s (loopV ok rec o s k)
  | 0 => VisK.refl _
  | k + 1 => (loopV_keep hr o s k).trans (stepV_keep hr o _ k)
theorem visitV_keep {n : Nat} {ok : List Int → Bool} {upd : List Int → St → St} {G : List Int → Int} (hu : UpdOk upd G) : ∀ (d : Nat) (o : List Int) (s : St), VisK s (visitV n ok upd d o s)
  | 0, o, s => (VisK.mk (Int.le_of_eq (hu.left o s)) (hu.fnd o s) (hu.mono o s)).trans (loopV_keep (fun _ s => VisK.refl s) o _ n)
  | d + 1, o, s => (VisK.mk (Int.le_of_eq (hu.left o s)) (hu.fnd o s) (hu.mono o s)).trans (loopV_keep (fun o s => visitV_keep hu d o s) o _ n)
/-- A round that has not run out has visited its order. -/
theorem loopV_all {ok : List Int → Bool} {rec : List Int → St → St} (hr : ∀ o s, VisK s (rec o s)) {o : List Int} {s : St} (hf : s.found = false) {P : Int → Prop} (hP : ∀ a b, P a → a ≤ b → P b) : ∀ {k : Nat}, 0 ≤ (loopV ok rec o s k).left → ∀ j, j < k → hasB o j = false → ok (o ++ [(j : Int)]) = true → (∀ t : St, t.found = false → 0 ≤ (rec (o ++ [(j : Int)]) t).left → P (rec (o ++ [(j : Int)]) t).most) → P (loopV ok rec o s k).most
  | 0, _, _, h, _, _, _ => absurd h (Nat.not_lt_zero _)
  | k + 1, hl, j, hj, h1, h2, h3 => by
    have hk := loopV_keep (ok := ok) hr o s k
    have hs := stepV_keep (ok := ok) hr o (loopV ok rec o s k) k
    have hl0 : 0 ≤ (loopV ok rec o s k).left := Int.le_trans hl hs.left
    rcases (show j < k ∨ j = k by omega) with h4 | rfl
    · exact hP _ _ (loopV_all hr hf hP hl0 j h4 h1 h2 h3) hs.most
    · have hf2 : (loopV ok rec o s j).found = false := hk.fnd.trans hf
      have e : loopV ok rec o s (j + 1) = stepV ok rec o (loopV ok rec o s j) j := rfl
      rw [e] at hl ⊢
      unfold stepV at hl ⊢
      rw [if_neg (by rw [hf2]; simp; omega), if_neg (by rw [h1]; decide), if_pos h2] at hl ⊢
      by_cases h5 : (loopV ok rec o s j).left = 0
      · rw [if_pos h5] at hl
        exact absurd (show (0 : Int) ≤ -1 from hl) (by decide)
      · rw [if_neg h5] at hl ⊢
        exact h3 _ hf2 hl
/-- No order that can be reached is better. -/
theorem visitV_most {n : Nat} {ok : List Int → Bool} {upd : List Int → St → St} {G : List Int → Int} (hu : UpdOk upd G) : ∀ (d : Nat) (o : List Int) (s : St), s.found = false → 0 ≤ (visitV n ok upd d o s).left → ∀ e, Way n ok o e → e.length ≤ o.length + d → G e ≤ (visitV n ok upd d o s).most
  | 0, o, s, _, _, e, hw, hl => by
    have hk := loopV_keep (ok := ok) (rec := fun _ s => s) (fun _ s => VisK.refl s) o (upd o s) n
    cases hw with
    | here _ => exact Int.le_trans (hu.hit o s) hk.most
    | more k h1 h2 h3 h4 =>
      have := h4.len
      rw [List.length_append] at this
      simp only [List.length_cons, List.length_nil] at this
      omega
  | d + 1, o, s, hf, h0, e, hw, hl => by
    have hk := loopV_keep (ok := ok) (rec := visitV n ok upd d) (fun o s => visitV_keep hu d o s) o (upd o s) n
    cases hw with
    | here _ => exact Int.le_trans (hu.hit o s) hk.most
    | more k h1 h2 h3 h4 =>
      refine loopV_all (ok := ok) (rec := visitV n ok upd d) (fun o s => visitV_keep hu d o s) (o := o) (s := upd o s) ((hu.fnd o s).trans hf) (P := fun m => G e ≤ m) (fun a b h h' => Int.le_trans h h') h0 k h1 h2 h3 (fun t ht h5 => ?_)
      exact visitV_most hu d _ t ht h5 e h4 (by rw [List.length_append]; simp only [List.length_cons, List.length_nil]; omega)
/-- What holds of the search's state behind each order that it reaches holds in the end. -/
theorem stepV_keeps {ok : List Int → Bool} {rec : List Int → St → St} {n : Nat} {R : List Int → Prop} {Q : St → Prop} (hR : ∀ o k, R o → k < n → hasB o (k : Int) = false → ok (o ++ [(k : Int)]) = true → R (o ++ [(k : Int)])) (hQ : ∀ s l, Q s → Q { s with left := l }) (hr : ∀ o s, R o → Q s → s.found = false → Q (rec o s)) {o : List Int} {s : St} (h0 : R o) (h1 : Q s) {k : Nat} (hk : k < n) : Q (stepV ok rec o s k) := by
  unfold stepV
  split
  · exact h1
  · rename_i h9
    have hf : s.found = false := by rw [← Bool.not_eq_true]; exact fun h => h9 (.inr h)
    split
    · exact h1
    · rename_i h2
      split
      · rename_i h3
        split
        · exact hQ _ _ h1
        · exact hr _ _ (hR o k h0 hk (by simpa using h2) h3) (hQ _ _ h1) hf
      · exact h1
theorem loopV_keeps {ok : List Int → Bool} {rec : List Int → St → St} {n : Nat} {R : List Int → Prop} {Q : St → Prop} (hR : ∀ o k, R o → k < n → hasB o (k : Int) = false → ok (o ++ [(k : Int)]) = true → R (o ++ [(k : Int)])) (hQ : ∀ s l, Q s → Q { s with left := l }) (hr : ∀ o s, R o → Q s → s.found = false → Q (rec o s)) {o : List Int} {s : St} (h0 : R o) (h1 : Q s) : ∀ {k : Nat}, k ≤ n → Q (loopV ok rec o s k)
  | 0, _ => h1
  | k + 1, hk => stepV_keeps hR hQ hr h0 (loopV_keeps hR hQ hr h0 h1 (by omega)) (by omega)
theorem visitV_keeps {n : Nat} {ok : List Int → Bool} {upd : List Int → St → St} {R : List Int → Prop} {Q : St → Prop} (hR : ∀ o k, R o → k < n → hasB o (k : Int) = false → ok (o ++ [(k : Int)]) = true → R (o ++ [(k : Int)])) (hQ : ∀ s l, Q s → Q { s with left := l }) (hu : ∀ o s, R o → Q s → s.found = false → Q (upd o s)) : ∀ (d : Nat) (o : List Int) (s : St), R o → Q s → s.found = false → Q (visitV n ok upd d o s)
  | 0, _, _, h0, h1, hf => loopV_keeps hR hQ (fun _ _ _ h _ => h) h0 (hu _ _ h0 h1 hf) (Nat.le_refl _)
  | d + 1, _, _, h0, h1, hf => loopV_keeps hR hQ (fun o s => visitV_keeps hR hQ hu d o s) h0 (hu _ _ h0 h1 hf) (Nat.le_refl _)
/-- A way from the first orders on goes by those that may be taken. -/
theorem Way.of {n : Nat} {ok : List Int → Bool} : ∀ (r o : List Int), (∀ j, j < r.length → ∃ k : Nat, k < n ∧ nth r j = (k : Int) ∧ hasB (o ++ r.take j) (k : Int) = false ∧ ok (o ++ r.take (j + 1)) = true) → Way n ok o (o ++ r)
  | [], o, _ => by rw [List.append_nil]; exact .here o
  | x :: r, o, h => by
    obtain ⟨k, h1, h2, h3, h4⟩ := h 0 (by simp)
    have h2 : x = (k : Int) := h2
    subst h2
    have e : o ++ (k : Int) :: r = o ++ [(k : Int)] ++ r := by rw [List.append_assoc]; rfl
    rw [e]
    refine .more k h1 (by rw [List.take_zero, List.append_nil] at h3; exact h3) (by simpa using h4) (Way.of r (o ++ [(k : Int)]) fun j hj => ?_)
    obtain ⟨q, g1, g2, g3, g4⟩ := h (j + 1) (by simpa using hj)
    refine ⟨q, g1, g2, ?_, ?_⟩
    · rw [List.append_assoc]; exact g3
    · rw [List.append_assoc]; exact g4
end Go.Proofs.Ytpmbaemfpkcjnaa

/- A search for the list of numbers with the greatest worth: what it computes. Plain Lean. -/
import Derived.Test.YtccbcjopmkmipaaDoorSrch
namespace Go.Proofs.YtccbcjopmkmipaaDoor
open Go.RowKit
/-- The state of such a search: the best list, its worth, the steps left. -/
structure Sr where
  best : List Int
  most : Int
  left : Int
section
variable (diff : Bool) (worth : List Int → Int) (many : Nat)
def stepL (rec : List Int → Sr → Sr) (ord : List Int) (s : Sr) (k : Nat) : Sr :=
  if s.left < 0 then s else if (diff && hasB ord k) = true then s else rec (ord ++ [(k : Int)]) s
def loopL (rec : List Int → Sr → Sr) (ord : List Int) (s : Sr) : Nat → Sr
  | 0 => s
  | k + 1 => stepL diff rec ord (loopL rec ord s k) k
def updL (ord : List Int) (s : Sr) : Sr := if s.most < worth ord then ⟨ord, worth ord, s.left⟩ else s
def visL : Nat → List Int → Sr → Sr
  | 0, ord, s => if s.left = 0 then { s with left := -1 } else updL worth ord { s with left := s.left - 1 }
  | d + 1, ord, s => if s.left = 0 then { s with left := -1 } else loopL diff (visL d) ord { s with left := s.left - 1 } many
end
section
variable {diff : Bool} {worth : List Int → Int} {many : Nat} {rec : List Int → Sr → Sr} {ord : List Int} {s : Sr} {k d : Nat}
theorem stepL_stop (h : s.left < 0) : stepL diff rec ord s k = s := if_pos h
theorem stepL_has (h : 0 ≤ s.left) (h2 : (diff && hasB ord k) = true) : stepL diff rec ord s k = s := by unfold stepL; rw [if_neg (by omega), if_pos h2]
theorem stepL_go (h : 0 ≤ s.left) (h2 : (diff && hasB ord k) = false) : stepL diff rec ord s k = rec (ord ++ [(k : Int)]) s := by unfold stepL; rw [if_neg (by omega), if_neg (by rw [h2]; decide)]
theorem loopL_stop (h : (loopL diff rec ord s k).left < 0) : ∀ m, k ≤ m → loopL diff rec ord s m = loopL diff rec ord s k
  | 0, hm => by obtain rfl : k = 0 := by omega
                rfl
  | m + 1, hm => by
    rcases Nat.lt_or_ge k (m + 1) with h1 | h1
    · have e := loopL_stop h m (by omega)
      show stepL diff rec ord (loopL diff rec ord s m) m = _
      rw [e]; exact stepL_stop h
    · obtain rfl : k = m + 1 := by omega
      rfl
theorem updL_t (h : s.most < worth ord) : updL worth ord s = ⟨ord, worth ord, s.left⟩ := if_pos h
theorem updL_f (h : ¬ s.most < worth ord) : updL worth ord s = s := if_neg h
theorem visL_0 (h : s.left = 0) : visL diff worth many d ord s = { s with left := -1 } := by
  cases d <;> exact if_pos h
theorem visL_z (h : s.left ≠ 0) : visL diff worth many 0 ord s = updL worth ord { s with left := s.left - 1 } := if_neg h
theorem visL_s (h : s.left ≠ 0) : visL diff worth many (d + 1) ord s = loopL diff (visL diff worth many d) ord { s with left := s.left - 1 } many := if_neg h
end
/-- What all states keep. -/
theorem loopL_inv {diff : Bool} {rec : List Int → Sr → Sr} {P : Sr → Prop} {ord : List Int} {n : Nat} (hr : ∀ k s, k < n → P s → P (rec (ord ++ [(k : Int)]) s)) {s : Sr} (h : P s) : ∀ k, k ≤ n → P (loopL diff rec ord s k)
  | 0, _ => h
  | k + 1, hk => by
    have ih := loopL_inv (diff := diff) hr h k (by omega)
    show P (stepL diff rec ord _ k)
    generalize loopL diff rec ord s k = a at *
    unfold stepL
    split
    · exact ih
    · split
      · exact ih
      · exact hr _ _ (by omega) ih
theorem visL_inv {diff : Bool} {worth : List Int → Int} {many : Nat} {P : Sr → Prop} (hl : ∀ s x, P s → P { s with left := x }) {n : Nat} (hu : ∀ o s, o.length = n → P s → P (updL worth o s)) : ∀ (d : Nat) {ord : List Int} {s : Sr}, ord.length + d = n → P s → P (visL diff worth many d ord s)
  | 0, _, _, hd, h => by
    unfold visL
    split
    · exact hl _ _ h
    · exact hu _ _ (by omega) (hl _ _ h)
  | d + 1, _, _, hd, h => by
    unfold visL
    split
    · exact hl _ _ h
    · exact loopL_inv (fun k s _ h => visL_inv hl hu d (by rw [List.length_append]; simp only [List.length_cons, List.length_nil]; omega) h) (hl _ _ h) many (Nat.le_refl _)
theorem visL_len {diff : Bool} {worth : List Int → Int} {many : Nat} (d : Nat) {ord : List Int} {s : Sr} (h : s.best.length ≤ ord.length + d) : (visL diff worth many d ord s).best.length ≤ ord.length + d :=
  visL_inv (P := fun s => s.best.length ≤ ord.length + d) (fun _ _ h => h) (fun o s ho h => by
    unfold updL
    split
    · exact Nat.le_of_eq ho
    · exact h) d rfl h
/-- The numbers of a list are below a bound. -/
def InMany (many : Nat) (ord : List Int) : Prop := ∀ k, k < ord.length → 0 ≤ nth ord k ∧ nth ord k < many
theorem InMany.nil (many : Nat) : InMany many [] := fun _ h => absurd h (Nat.not_lt_zero _)
theorem nth_push {ord : List Int} {x : Int} {i : Nat} (h : i < (ord ++ [x]).length) : (i < ord.length ∧ nth (ord ++ [x]) i = nth ord i) ∨ (i = ord.length ∧ nth (ord ++ [x]) i = x) := by
  rcases Nat.lt_or_ge i ord.length with h1 | h1
  · exact .inl ⟨h1, by simp [nth, List.getElem?_append_left h1]⟩
  · have : i = ord.length := by rw [List.length_append] at h; simp only [List.length_cons, List.length_nil] at h; omega
    subst this
    exact .inr ⟨rfl, by simp [nth]⟩
theorem InMany.push {many : Nat} {ord : List Int} (h : InMany many ord) {k : Nat} (hk : k < many) : InMany many (ord ++ [(k : Int)]) := fun i hi => by
  rcases nth_push hi with ⟨h1, e⟩ | ⟨h1, e⟩
  · rw [e]; exact h i h1
  · rw [e]; omega
end Go.Proofs.YtccbcjopmkmipaaDoor
